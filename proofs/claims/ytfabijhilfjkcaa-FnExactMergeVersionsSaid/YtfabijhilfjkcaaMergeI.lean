/- Settings of the program: found, all names, the test of a conflict. Printed by a program of mine. -/
import Derived.Test.YtfabijhilfjkcaaRows
import Derived.Test.YtfabijhilfjkcaaCSetting
import Derived.Test.YtfabijhilfjkcaaSetAt
import Derived.Test.YtfabijhilfjkcaaMergeT
import Derived.Test.YtfabijhilfjkcaaCount
import Derived.Deep.QuietTactic
namespace Go.Proofs.Ytfabijhilfjkcaa
set_option linter.unusedVariables false
set_option linter.unusedSimpArgs false
set_option linter.unusedSectionVars false
open Go.RowKit
set_option maxRecDepth 100000

/-- what the program's search answers -/
def FindR (l : List DSetting) (nm : ByteArray) (n k : Nat) (b : Bool) : Prop :=
  (b = true → k < n ∧ ∃ x, l[k]? = some x ∧ valS l nm = x.fValue) ∧ (b = false → valS l nm = -1)
def LowTo (l : List DSetting) (nm : ByteArray) (k : Nat) : Prop := ∀ (j : Nat) (y : DSetting), j < k → l[j]? = some y → Op.bytesLess y.fName.toList nm.toList = true
theorem low_zero (l : List DSetting) (nm : ByteArray) : LowTo l nm 0 := fun j y h => absurd h (Nat.not_lt_zero _)
theorem low_next {l : List DSetting} {nm : ByteArray} {k : Nat} {x : DSetting} (h : LowTo l nm k) (hx : l[k]? = some x) (hl : Op.bytesLess x.fName.toList nm.toList = true) : LowTo l nm (k + 1) := fun j y hj hy => by
  rcases Nat.lt_or_ge j k with h1 | h1
  · exact h j y h1 hy
  · obtain rfl : j = k := by omega
    rw [hx] at hy
    cases hy
    exact hl
theorem find_hit {l : List DSetting} {nm : ByteArray} {n k : Nat} {x : DSetting} (ha : AscS (nmS l)) (hx : l[k]? = some x) (hk : k < n) (he : x.fName = nm) : FindR l nm n k true :=
  ⟨fun _ => ⟨hk, x, hx, (scan_hit ha hx he).1⟩, fun h => by cases h⟩
theorem find_miss {l : List DSetting} {nm : ByteArray} {n k : Nat} (ha : AscS (nmS l)) (hlo : LowTo l nm k) (hk : ∀ x, l[k]? = some x → Op.bytesLess x.fName.toList nm.toList = false ∧ x.fName ≠ nm) : FindR l nm n k false :=
  ⟨fun h => (by cases h), fun _ => (scan_miss ha hlo hk).1⟩

set_option maxHeartbeats 2000000 in
theorem i_find (A : Option Addr) (n c : Nat) (l : List DSetting) (nm : ByteArray) (w : World) (hr : Rd settingE w A n l) (hn : n ≤ 1048576) (ha : AscS (nmS l)) :
    Calls Try.prog 62 #[.slice A n c, .string nm] w fun e w' => ∃ (k : Nat) (b : Bool), Hid (FindR l nm n k b) ∧ e = .returned (.tuple #[.int .i64 k, .bool b]) ∧ ∃ m, w' = w.drewN m := by
  have Hl := Lib.hid hr.1
  have HA := Lib.hid ha; clear ha
  go_enter Try.func62, Try.ntmps62
  go_wp2_with fail
  go_loop [6] (fun i => ∃ k : Nat, k ≤ n ∧ i = .int .i64 k ∧ Hid (LowTo l nm k)) (fun i => n - (intOf i).toNat)
  case atStart => exact ⟨0, Nat.zero_le _, rfl, Lib.hid (low_zero l nm)⟩
  case round =>
    obtain ⟨k, hk, rfl, HH⟩ := hrel
    by_cases hlt : k < n
    · obtain ⟨b, off, x, rfl, hx, hcs⟩ := hr.get hlt
      have hc0 := hcs 0 _ rfl
      simp only [settingE, Nat.add_zero] at hc0
      have HX := Lib.hid hx
      clear hcs hx
      rcases h1 : Op.bytesLess x.fName.toList nm.toList with _ | _
      · rcases h2 : x.fName.toList == nm.toList with _ | _
        · have HF : Hid (FindR l nm n k false) := Lib.hid (find_miss HA.out HH.out fun y hy => by
            rw [HX.out] at hy
            cases hy
            exact ⟨h1, by rw [eqS_iff] at h2; exact of_decide_eq_false h2⟩)
          go_wp2_with fail
          go_quiet (fail)
          go_wp2
          go_ret2
          exact ⟨k, false, HF, rfl, _, rfl⟩
        · have HF : Hid (FindR l nm n k true) := Lib.hid (find_hit HA.out HX.out hlt (by rw [eqS_iff] at h2; exact of_decide_eq_true h2))
          go_wp2_with fail
          go_quiet (fail)
          go_wp2
          go_ret2
          exact ⟨k, true, HF, rfl, _, rfl⟩
      · have HN : Hid (LowTo l nm (k + 1)) := Lib.hid (low_next HH.out HX.out h1)
        go_wp2
        first | (refine ⟨⟨k + 1, by omega, by go_num, HN⟩, ?_⟩; (simp [intOf]; omega)) | (go_round; (case rel => first | exact ⟨k + 1, by omega, by go_num, HN⟩ | ((try refine ⟨trivial, ?_⟩); (repeat apply Exists.intro); exact ⟨⟨k + 1, by omega, by go_num, HN⟩, rfl⟩)); (case measure => (simp [intOf]; omega)))
    · have HF : Hid (FindR l nm n k false) := Lib.hid (find_miss HA.out HH.out fun y hy => absurd (List.getElem?_eq_some_iff.1 hy).1 (by have := Hl.out; omega))
      have hd : decide ((k : Int) < (n : Int)) = false := decide_eq_false (by omega)
      go_wp2_with fail
      go_quiet (fail)
      go_wp2
      go_ret2
      exact ⟨k, false, HF, rfl, _, rfl⟩

set_option maxHeartbeats 2000000 in
theorem i_value (A : Option Addr) (n c : Nat) (l : List DSetting) (nm : ByteArray) (w : World) (hr : Rd settingE w A n l) (hn : n ≤ 1048576) (ha : AscS (nmS l)) :
    Calls Try.prog 47 #[.slice A n c, .string nm] w fun e w' => e = .returned (.int .i64 (valS l nm)) ∧ ∃ m, w' = w.drewN m := by
  go_enter Try.func47, Try.ntmps47
  go_wp2_with fail
  refine (i_find A n c l nm w hr hn ha).mono ?_
  rintro e w1 ⟨k, b, hF, rfl, m, rfl⟩
  rcases b with _ | _
  · have E1 := Lib.hid (hF.out.2 rfl)
    clear hF
    go_wp2
    go_ret
    exact ⟨ret_int E1.out.symm, _, rfl⟩
  · obtain ⟨hk, x, hx, hv⟩ := hF.out.1 rfl
    obtain ⟨b, off, x', rfl, hx', hcs⟩ := (hr.drewN m).get hk
    rw [hx] at hx'
    cases hx'
    have hc1 := hcs 1 _ rfl
    simp only [settingE] at hc1
    have E1 := Lib.hid hv
    clear hF hcs hx hv
    go_wp2
    go_ret
    exact ⟨ret_int E1.out.symm, _, rfl⟩
/-- a state as it lies -/
structure St3 where
  A : Option Addr
  n : Nat
  c : Nat
  l : List DSetting
def stE : Enc St3 := ⟨1, fun x => [.slice x.A x.n x.c], fun _ => rfl, by decide, fun _ u h => by simp at h; subst h; rfl⟩
def flatS (S : List St3) : List DSetting := S.flatMap fun x => x.l
theorem flatS_take {S : List St3} {k : Nat} {x : St3} (h : S[k]? = some x) : flatS (S.take (k + 1)) = flatS (S.take k) ++ x.l := by
  unfold flatS
  rw [take_snoc h, List.flatMap_append]
  simp
theorem nms_app (a b : List DSetting) : nmS (a ++ b) = nmS a ++ nmS b := nmS_app a b
theorem nms_take {l : List DSetting} {k : Nat} {x : DSetting} (h : l[k]? = some x) : nmS (l.take (k + 1)) = nmS (l.take k) ++ [x.fName] := by rw [take_snoc h, nmS_app]; rfl

set_option maxHeartbeats 4000000 in
theorem i_namesOf (A : Option Addr) (n c : Nat) (S : List St3) (w0 : World) (hr : Rd stE w0 A n S) (hn : n ≤ 3) (hS : ∀ x ∈ S, Rd settingE w0 x.A x.n x.l ∧ x.n ≤ 24) :
    Calls Try.prog 46 #[.slice A n c] w0 fun e w' => ∃ g z q, e = .returned (.slice (some ⟨g, 0, none⟩) z q) ∧ GL strE 9 w0.heap.size w' (.slice (some ⟨g, 0, none⟩) z q) (uniqB (sortB (nmS (flatS S)))) ∧ Below w0.heap.size w0 w' := by
  obtain ⟨i0, hi, hz0, hz1, hz2⟩ := info_parts Try.info_st
  have HZ := Lib.hid (And.intro hz0 hz1); clear hz0 hz1
  have Hl := Lib.hid hr.1
  have HS := Lib.hid hS; clear hS
  have HG0 : Hid (GL strE 9 w0.heap.size (w0.alloc (.cells #[] 9)) (.slice (some ⟨w0.heap.size, 0, none⟩) 0 0) (nmS (flatS (S.take 0)))) := Lib.hid (GL.mk0 (Nat.le_refl _))
  have hb0 : Below w0.heap.size w0 (w0.alloc (.cells #[] 9)) := (Below.refl _ _).alloc (Nat.le_refl _) _
  go_enter Try.func46, Try.ntmps46
  go_wp2_with fail
  go_loopw [3, 11] (fun t i wr => ∃ (k g z q : Nat), k ≤ n ∧ i = .int .i64 k ∧ t = .slice (some ⟨g, 0, none⟩) z q ∧ z ≤ 24 * k ∧ Hid (GL strE 9 w0.heap.size wr (.slice (some ⟨g, 0, none⟩) z q) (nmS (flatS (S.take k)))) ∧ Below w0.heap.size w0 wr) (fun _ i _ => n - (intOf i).toNat)
  case atStart => exact ⟨0, _, 0, 0, Nat.zero_le _, rfl, rfl, Nat.le_refl _, HG0, hb0⟩
  case round =>
    clear HG0 hb0
    obtain ⟨k, g, z, q, hk, rfl, rfl, hzk, HGL, hb⟩ := hrel
    by_cases hlt : k < n
    · obtain ⟨b, off, x, rfl, hx, hcs⟩ := hr.get hlt
      have hc0 := range_below (B := 0) hcs hb 0 _ rfl
      simp only [stE, Nat.mul_one, Nat.add_zero] at hc0
      have HX := Lib.hid hx
      obtain ⟨hrx, hn24⟩ := HS.out x (List.mem_of_getElem? hx)
      have HRX := Lib.hid hrx
      have HLX := Lib.hid hrx.1
      have HG1 : Hid (GL strE 9 w0.heap.size wr (.slice (some ⟨g, 0, none⟩) z q) (nmS (flatS (S.take k)) ++ nmS (x.l.take 0))) := Lib.hid (by rw [List.take_zero, show nmS [] = ([] : List ByteArray) from rfl, List.append_nil]; exact HGL.out)
      clear hcs hx hrx
      go_wp2_with fail
      obtain ⟨wo, rfl⟩ : ∃ wo : World, wo = wr := ⟨_, rfl⟩
      clear hc0
      go_loopw [3, 17] (fun t i wr => ∃ (j g z q : Nat), j ≤ x.n ∧ i = .int .i64 j ∧ t = .slice (some ⟨g, 0, none⟩) z q ∧ z ≤ 24 * k + j ∧ Hid (GL strE 9 w0.heap.size wr (.slice (some ⟨g, 0, none⟩) z q) (nmS (flatS (S.take k)) ++ nmS (x.l.take j))) ∧ Below w0.heap.size w0 wr) (fun _ i _ => x.n - (intOf i).toNat)
      case atStart => exact ⟨0, g, z, q, Nat.zero_le _, rfl, rfl, by omega, HG1, hb⟩
      case round =>
        clear HG1 HGL hb hzk
        obtain ⟨j, g, z, q, hj, rfl, rfl, hzk, HGL, hb⟩ := hrel
        have hbs := hb.size
        by_cases hjn : j < x.n
        · obtain ⟨b2, off2, e, hA2, he, hce⟩ := HRX.out.get hjn
          have hcr := range_below (B := 0) hce hb
          have hc0 := hcr 0 _ rfl
          have hc1 := hcr 1 _ rfl
          simp only [settingE, Nat.add_zero] at hc0 hc1
          have HN : Hid (nmS (flatS (S.take k)) ++ nmS (x.l.take (j + 1)) = (nmS (flatS (S.take k)) ++ nmS (x.l.take j)) ++ [e.fName]) := Lib.hid (by rw [nms_take he, List.append_assoc])
          clear hce hcr he
          rw [hA2]
          have R := range_new wr #[.string e.fName, .int .i64 e.fValue] 56
          have ba : Below wr.heap.size wr (wr.alloc (.cells #[.string e.fName, .int .i64 e.fValue] 56)) := (Below.refl _ _).alloc (Nat.le_refl _) _
          obtain ⟨W, hW⟩ : ∃ W, wr.alloc (.cells #[.string e.fName, .int .i64 e.fValue] 56) = W := ⟨_, rfl⟩
          rw [hW] at R ba
          have u0 := R 0 _ rfl
          simp only [Nat.zero_add] at u0
          have hbW := hb.trans (ba.mono hbs)
          have hbsW := hbW.size
          have hglW := HGL.out.below ba
          clear R ba HGL
          go_wp2_with (at_builtin; refine wpList_pushO strE rfl _ _ 53 rfl w0.heap.size 9 i0 _ 16 Try.underlying53 hi HZ.out.1 HZ.out.2 hz2 rfl (some ⟨g, 0, none⟩) z q (nmS (flatS (S.take k)) ++ nmS (x.l.take j)) e.fName rfl (hglW.alloc _) W.heap.size rfl (range_new _ _ _) (by omega) (by decide) (Nat.le_trans hbsW (by simp)) ?_; intro BB2 cc2 w2 hgl2 ht2 hn2; have hb2 := Below.touch (hbW.alloc hbsW (.cells #[.string e.fName] 9)) ht2 (fun k hk => (hglW.lt k hk).1) (Nat.le_trans hbsW (by simp)); have hbs2 := hb2.size; clear ht2 hn2)
          try rw [hW]
          clear hW
          obtain ⟨g2, rfl⟩ := hgl2.place (by omega)
          have HG3 : Hid (GL strE 9 w0.heap.size w2 (.slice (some ⟨g2, 0, none⟩) (z + 1) cc2) (nmS (flatS (S.take k)) ++ nmS (x.l.take (j + 1)))) := Lib.hid (by rw [HN.out]; exact hgl2)
          clear hgl2 hglW hc0 hc1 u0
          go_wp2
          first | (refine ⟨⟨j + 1, g2, z + 1, cc2, by omega, by go_num, rfl, by omega, HG3, hb2⟩, ?_⟩; (simp [intOf]; omega)) | (go_roundw; (case rel => first | exact ⟨j + 1, g2, z + 1, cc2, by omega, by go_num, rfl, by omega, HG3, hb2⟩ | ((try refine ⟨trivial, ?_⟩); (repeat apply Exists.intro); exact ⟨⟨j + 1, g2, z + 1, cc2, by omega, by go_num, rfl, by omega, HG3, hb2⟩, rfl⟩)); (case measure => (simp [intOf]; omega)))
        · obtain rfl : j = x.n := by omega
          have HG3 : Hid (GL strE 9 w0.heap.size wr (.slice (some ⟨g, 0, none⟩) z q) (nmS (flatS (S.take (k + 1))))) := Lib.hid (by rw [flatS_take HX.out, nms_app]; have h := HGL.out; rw [List.take_of_length_le (Nat.le_of_eq HLX.out)] at h; exact h)
          clear HGL
          go_wp2
          first | (refine ⟨⟨k + 1, g, z, q, by omega, by go_num, rfl, by omega, HG3, hb⟩, ?_⟩; (simp [intOf]; omega)) | (go_roundw; (case rel => first | exact ⟨k + 1, g, z, q, by omega, by go_num, rfl, by omega, HG3, hb⟩ | ((try refine ⟨trivial, ?_⟩); (repeat apply Exists.intro); exact ⟨⟨k + 1, g, z, q, by omega, by go_num, rfl, by omega, HG3, hb⟩, rfl⟩)); (case measure => (simp [intOf]; omega)))
    · obtain rfl : k = n := by omega
      have E1 : Hid (S.take k = S) := Lib.hid (List.take_of_length_le (Nat.le_of_eq Hl.out))
      have hgl := HGL.out
      rw [E1.out] at hgl
      clear HGL
      go_wp2_with fail
      refine (i_sortedSet g z q w0.heap.size (nmS (flatS S)) _ w0 hgl (by omega) hb).mono ?_
      rintro e w1 ⟨rfl, hgl1, hb1⟩
      have HG := Lib.hid hgl1
      clear hgl hgl1
      go_wp2
      go_ret
      exact ⟨g, _, q, rfl, HG.out, hb1⟩

end Go.Proofs.Ytfabijhilfjkcaa

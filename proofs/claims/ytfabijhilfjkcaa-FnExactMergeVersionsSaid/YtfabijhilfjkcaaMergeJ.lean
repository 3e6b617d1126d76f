/- The program's conflicts. Printed by a program of mine. -/
import Derived.Test.YtfabijhilfjkcaaRows
import Derived.Test.YtfabijhilfjkcaaMergeI
import Derived.Test.YtfabijhilfjkcaaDelK
namespace Go.Proofs.Ytfabijhilfjkcaa
set_option linter.unusedVariables false
set_option linter.unusedSimpArgs false
set_option linter.unusedSectionVars false
open Go.RowKit
set_option maxRecDepth 100000

/-- what the closure of conflicts has captured -/
structure EnvC (q0 q1 q2 : Nat) (x0 x1 x2 : St3) (w : World) : Prop where
  c0 : w.cell? ⟨q0, 0, none⟩ = some (.slice x0.A x0.n x0.c)
  c1 : w.cell? ⟨q1, 0, none⟩ = some (.slice x1.A x1.n x1.c)
  c2 : w.cell? ⟨q2, 0, none⟩ = some (.slice x2.A x2.n x2.c)
  r0 : Rd settingE w x0.A x0.n x0.l
  r1 : Rd settingE w x1.A x1.n x1.l
  r2 : Rd settingE w x2.A x2.n x2.l
theorem EnvC.below {q0 q1 q2 : Nat} {x0 x1 x2 : St3} {w w' : World} (h : EnvC q0 q1 q2 x0 x1 x2 w) (hb : Below w.heap.size w w') : EnvC q0 q1 q2 x0 x1 x2 w' :=
  ⟨cell_later hb h.c0, cell_later hb h.c1, cell_later hb h.c2, h.r0.below hb, h.r1.below hb, h.r2.below hb⟩
theorem conf_eq (l0 l1 l2 : List DSetting) (s : ByteArray) : (!(confB l0 l1 l2 s)) = ((valS l1 s == valS l2 s) || ((valS l1 s == valS l0 s) || (valS l2 s == valS l0 s))) := by
  unfold confB
  rw [Bool.not_not]
  rfl

set_option maxHeartbeats 2000000 in
theorem i_conf1 (q0 q1 q2 : Nat) (x0 x1 x2 : St3) (s : ByteArray) (w : World) (he : EnvC q0 q1 q2 x0 x1 x2 w) (hok : Ok3 x0.l x1.l x2.l) :
    Calls Try.prog 60 #[.string s, .pointer (some ⟨q1, 0, none⟩), .pointer (some ⟨q2, 0, none⟩), .pointer (some ⟨q0, 0, none⟩)] w fun e w' => e = .returned (.bool (!(confB x0.l x1.l x2.l s))) ∧ Below w.heap.size w w' := by
  have hc0 := he.c0
  have hc1 := he.c1
  have hc2 := he.c2
  have m0 : x0.n ≤ 24 := by rw [← he.r0.1]; exact hok.n0
  have m1 : x1.n ≤ 24 := by rw [← he.r1.1]; exact hok.n1
  have m2 : x2.n ≤ 24 := by rw [← he.r2.1]; exact hok.n2
  have C0 : ∀ m, Calls Try.prog 47 #[.slice x0.A x0.n x0.c, .string s] (w.drewN m) fun e w' => e = .returned (.int .i64 (valS x0.l s)) ∧ ∃ k, w' = w.drewN k := fun m => Calls.quiet_of (i_value x0.A x0.n x0.c x0.l s (w.drewN m) (he.r0.drewN m) (by omega) hok.h0.asc)
  have C1 : ∀ m, Calls Try.prog 47 #[.slice x1.A x1.n x1.c, .string s] (w.drewN m) fun e w' => e = .returned (.int .i64 (valS x1.l s)) ∧ ∃ k, w' = w.drewN k := fun m => Calls.quiet_of (i_value x1.A x1.n x1.c x1.l s (w.drewN m) (he.r1.drewN m) (by omega) hok.h1.asc)
  have C2 : ∀ m, Calls Try.prog 47 #[.slice x2.A x2.n x2.c, .string s] (w.drewN m) fun e w' => e = .returned (.int .i64 (valS x2.l s)) ∧ ∃ k, w' = w.drewN k := fun m => Calls.quiet_of (i_value x2.A x2.n x2.c x2.l s (w.drewN m) (he.r2.drewN m) (by omega) hok.h2.asc)
  have HE := Lib.hid (conf_eq x0.l x1.l x2.l s)
  obtain ⟨v0, hv0⟩ : ∃ v, valS x0.l s = v := ⟨_, rfl⟩
  obtain ⟨v1, hv1⟩ : ∃ v, valS x1.l s = v := ⟨_, rfl⟩
  obtain ⟨v2, hv2⟩ : ∃ v, valS x2.l s = v := ⟨_, rfl⟩
  rw [hv0] at C0
  rw [hv1] at C1
  rw [hv2] at C2
  rw [hv0, hv1, hv2] at HE
  clear hv0 hv1 hv2 he hok
  go_enter Try.func60, Try.ntmps60
  go_wp2_with fail
  go_quiet (first | (go_at_call 47; with_reducible exact C0 _) | (go_at_call 47; with_reducible exact C1 _) | (go_at_call 47; with_reducible exact C2 _))
  clear C0 C1 C2 hc0 hc1 hc2
  rcases h12 : v1 == v2 with _ | _
  · rcases h10 : v1 == v0 with _ | _
    · rcases h20 : v2 == v0 with _ | _
      · have E1 : Hid ((!(confB x0.l x1.l x2.l s)) = false) := Lib.hid (by rw [HE.out, h12, h10, h20]; rfl)
        go_wp2
        go_ret
        exact ⟨ret_bool E1.out.symm, below_drewN (Below.refl _ _) _⟩
      · have E1 : Hid ((!(confB x0.l x1.l x2.l s)) = true) := Lib.hid (by rw [HE.out, h12, h10, h20]; rfl)
        go_wp2
        go_ret
        exact ⟨ret_bool E1.out.symm, below_drewN (Below.refl _ _) _⟩
    · have E1 : Hid ((!(confB x0.l x1.l x2.l s)) = true) := Lib.hid (by rw [HE.out, h12, h10]; rfl)
      go_wp2
      go_ret
      exact ⟨ret_bool E1.out.symm, below_drewN (Below.refl _ _) _⟩
  · have E1 : Hid ((!(confB x0.l x1.l x2.l s)) = true) := Lib.hid (by rw [HE.out, h12]; rfl)
    go_wp2
    go_ret
    exact ⟨ret_bool E1.out.symm, below_drewN (Below.refl _ _) _⟩

def IdxR (p : ByteArray → Bool) (l : List ByteArray) (n : Nat) (v : Int) : Prop :=
  (v = -1 ∧ ∀ x ∈ l, p x = true) ∨ (∃ i : Nat, v = i ∧ i < n ∧ (∀ (k : Nat) y, k < i → l[k]? = some y → p y = true) ∧ ∀ y, l[i]? = some y → p y = false)
set_option maxHeartbeats 2000000 in
theorem i_IndexNames (A : Option Addr) (n c q0 q1 q2 : Nat) (x0 x1 x2 : St3) (l : List ByteArray) (w : World) (hr : Rd strE w A n l) (hn : n ≤ 1048576) (he : EnvC q0 q1 q2 x0 x1 x2 w) (hok : Ok3 x0.l x1.l x2.l) :
    Calls Try.prog 67 #[.slice A n c, .func (.func 60) #[] #[.pointer (some ⟨q1, 0, none⟩), .pointer (some ⟨q2, 0, none⟩), .pointer (some ⟨q0, 0, none⟩)]] w fun e w' => ∃ v : Int, Hid (IdxR (confB x0.l x1.l x2.l) l n v) ∧ e = .returned (.int .i64 v) ∧ Below w.heap.size w w' := by
  have Hl := Lib.hid hr.1
  have HE := Lib.hid he
  have HK := Lib.hid hok
  clear he hok
  go_enter Try.func67, Try.ntmps67
  go_wp2_with fail
  go_loopw [8] (fun i wr => ∃ k : Nat, k ≤ n ∧ i = .int .i64 k ∧ Below w.heap.size w wr ∧ Hid (∀ (j : Nat) y, j < k → l[j]? = some y → confB x0.l x1.l x2.l y = true)) (fun i _ => n - (intOf i).toNat)
  case atStart => exact ⟨0, Nat.zero_le _, rfl, Below.refl _ _, Lib.hid (fun j x h => absurd h (Nat.not_lt_zero _))⟩
  case round =>
    obtain ⟨k, hk, rfl, hb, HH⟩ := hrel
    by_cases hlt : k < n
    · obtain ⟨b0, off, x, rfl, hx, hc⟩ := hr.get hlt
      have hc0 := range_below (B := 0) hc hb 0 _ rfl
      simp only [strE, Nat.mul_one, Nat.add_zero] at hc0
      have HX := Lib.hid hx
      clear hc hx
      have hcall := i_conf1 q0 q1 q2 x0 x1 x2 x wr (HE.out.below hb) HK.out
      go_wp2_with fail
      refine hcall.mono ?_
      rintro e w1 ⟨rfl, hb1⟩
      have hb2 := hb.trans (hb1.mono hb.size)
      clear hcall hc0
      rcases hw : confB x0.l x1.l x2.l x with _ | _
      · have HF : Hid (IdxR (confB x0.l x1.l x2.l) l n k) := Lib.hid (.inr ⟨k, rfl, hlt, HH.out, fun y hy => by rw [HX.out] at hy; cases hy; exact hw⟩)
        clear hw
        go_wp2
        go_ret
        exact ⟨k, HF, rfl, hb2⟩
      · have HN : Hid (∀ (j : Nat) y, j < k + 1 → l[j]? = some y → confB x0.l x1.l x2.l y = true) := Lib.hid (fun j y hj hy => by
          rcases Nat.lt_or_ge j k with h | h
          · exact HH.out j y h hy
          · obtain rfl : j = k := by omega
            rw [HX.out] at hy; cases hy
            exact hw)
        clear hw
        go_wp2
        first | (refine ⟨⟨k + 1, by omega, by go_num, hb2, HN⟩, ?_⟩; (simp [intOf]; omega)) | (go_roundw; (case rel => first | exact ⟨k + 1, by omega, by go_num, hb2, HN⟩ | ((try refine ⟨trivial, ?_⟩); (repeat apply Exists.intro); exact ⟨⟨k + 1, by omega, by go_num, hb2, HN⟩, rfl⟩)); (case measure => (simp [intOf]; omega)))
    · have HF : Hid (IdxR (confB x0.l x1.l x2.l) l n (-1)) := Lib.hid (.inl ⟨rfl, fun p hp => by
        obtain ⟨j, hj⟩ := List.mem_iff_getElem?.1 hp
        exact HH.out j p (by have := (List.getElem?_eq_some_iff.1 hj).1; have := Hl.out; omega) hj⟩)
      go_wp2
      go_ret
      exact ⟨-1, HF, rfl, hb⟩
theorem GL.setStr {et : TypeId} {base g n c j : Nat} {w : World} {l : List ByteArray} (h : GL strE et base w (.slice (some ⟨g, 0, none⟩) n c) l) (hj : j < n) (x : ByteArray) :
    GL strE et base (w.setCell ⟨g, j, none⟩ (.string x)) (.slice (some ⟨g, 0, none⟩) n c) (l.set j x) := by
  have h1 := h.putK (i := j) x hj
  have e5 : w.setCells g (j * strE.k) (strE.cells x) = w.setCell ⟨g, j, none⟩ (.string x) := by
    show w.setCells g (j * 1) [.string x] = _
    rw [Nat.mul_one]
    rfl
  rw [e5] at h1
  exact h1
set_option maxHeartbeats 4000000 in
theorem i_DeleteNames (g n c q0 q1 q2 : Nat) (x0 x1 x2 : St3) (l : List ByteArray) (w w0 : World) (hgl : GL strE 9 w0.heap.size w (.slice (some ⟨g, 0, none⟩) n c) l) (hn : n ≤ 1048576) (he : EnvC q0 q1 q2 x0 x1 x2 w0) (hok : Ok3 x0.l x1.l x2.l) (hb0 : Below w0.heap.size w0 w) :
    Calls Try.prog 59 #[.slice (some ⟨g, 0, none⟩) n c, .func (.func 60) #[] #[.pointer (some ⟨q1, 0, none⟩), .pointer (some ⟨q2, 0, none⟩), .pointer (some ⟨q0, 0, none⟩)]] w fun e w' => ∃ m : Nat, m ≤ n ∧ e = .returned (.slice (some ⟨g, 0, none⟩) m c) ∧ GL strE 9 w0.heap.size w' (.slice (some ⟨g, 0, none⟩) m c) (l.filter (confB x0.l x1.l x2.l)) ∧ Below w0.heap.size w0 w' := by
  obtain ⟨i0, hi, hz0, hz1, hz2⟩ := info_parts Try.info_st
  have HZV : Hid (∀ w, (zeroValue 9).run Try.prog w = .ok (.string ⟨#[]⟩) w) := Lib.hid (fun w => by simp [zeroValue, typeInfo, hi, hz0])
  clear hi hz0 hz1 hz2
  have Hl := Lib.hid hgl.len
  have hcap := hgl.cap
  have hc1 := hcap.1
  have hc2 := hcap.2
  unfold maxLen at hc2
  clear hcap
  have hgb := hgl.baseLe
  have HE := Lib.hid he
  have HK := Lib.hid hok
  clear he hok
  go_enter Try.func59, Try.ntmps59
  go_wp2_with fail
  refine (i_IndexNames _ n c q0 q1 q2 x0 x1 x2 l w hgl.rd hn (HE.out.below hb0) HK.out).mono ?_
  rintro e w1 ⟨v, hv, rfl, hb1⟩
  have hgl1 := hgl.below hb1
  have hbB := hb0.trans (hb1.mono hb0.size)
  clear hgl hb0 hb1
  obtain hv | ⟨i, rfl, hin, hlo, hhi⟩ := hv.out
  · obtain ⟨rfl, hall⟩ := hv
    have E : Hid (l.filter (confB x0.l x1.l x2.l) = l) := Lib.hid (keep_all hall)
    clear hall
    go_wp2
    go_ret
    exact ⟨n, Nat.le_refl _, rfl, by rw [E.out]; exact hgl1, hbB⟩
  · have HD0 := Lib.hid (DelSt.start hlo hhi (by rw [Hl.out]; exact hin))
    have hne : ((i : Int) == -1) = false := by rw [beq_eq_false_iff_ne]; omega
    have HG1 := Lib.hid hgl1
    clear hlo hhi hv hgl1
    go_wp2_with fail
    go_loopw [5, 6] (fun iv jv wr => ∃ (i' j : Nat) (L : List ByteArray), i' < j ∧ j ≤ n ∧ iv = .int .i64 i' ∧ jv = .int .i64 j ∧ Hid (DelSt (confB x0.l x1.l x2.l) l i' j L) ∧ Hid (GL strE 9 w0.heap.size wr (.slice (some ⟨g, 0, none⟩) n c) L) ∧ Below w0.heap.size w0 wr) (fun _ j _ => n - (intOf j).toNat)
    case atStart => exact ⟨i, i + 1, l, by omega, by omega, rfl, by go_num, HD0, HG1, hbB⟩
    case round =>
      obtain ⟨i', j, L, hij, hjn, rfl, rfl, HD, HGL, hbr⟩ := hrel
      clear hne HD0 HG1 hbB
      have hgl := HGL.out
      have hsr := hbr.size
      by_cases hlt : j < n
      · obtain ⟨x, hx⟩ : ∃ x, l[j]? = some x := ⟨_, List.getElem?_eq_getElem (by have := Hl.out; omega)⟩
        have hc0 := hgl.cellS (HD.out.get hx)
        have HX := Lib.hid hx
        clear hx
        go_wp2_with fail
        refine (i_conf1 q0 q1 q2 x0 x1 x2 x wr (HE.out.below hbr) HK.out).mono ?_
        rintro e w5 ⟨rfl, hb5⟩
        have hgl5 := hgl.below hb5
        have hbr5 := hbr.trans (hb5.mono hsr)
        have hsr5 := hbr5.size
        clear hgl hb5 hc0
        rcases hw : confB x0.l x1.l x2.l x with _ | _
        · have HN := Lib.hid (HD.out.out HX.out hw)
          have HG5 := Lib.hid hgl5
          clear hw hgl5
          go_wp2
          first | (refine ⟨⟨i', j + 1, L, by omega, by omega, rfl, by go_num, HN, HG5, hbr5⟩, ?_⟩; (simp [intOf]; omega)) | (go_roundw; (case rel => first | exact ⟨i', j + 1, L, by omega, by omega, rfl, by go_num, HN, HG5, hbr5⟩ | ((try refine ⟨trivial, ?_⟩); (repeat apply Exists.intro); exact ⟨⟨i', j + 1, L, by omega, by omega, rfl, by go_num, HN, HG5, hbr5⟩, rfl⟩)); (case measure => (simp [intOf]; omega)))
        · have HN := Lib.hid (HD.out.keep HX.out hw)
          clear hw
          obtain ⟨u0, hu0⟩ := Option.isSome_iff_exists.1 (hgl5.cell (j := i') (by show _ < _ * 1; omega))
          have f0 := hgl5.free i'
          have HGN := Lib.hid (hgl5.setStr (j := i') (by omega) x)
          have hbN := hbr5.setCell (p := ⟨g, i', none⟩) hgb (.string x)
          clear hgl5
          go_wp2
          first | (refine ⟨⟨i' + 1, j + 1, L.set i' x, by omega, by omega, by go_num, by go_num, HN, HGN, hbN⟩, ?_⟩; (simp [intOf]; omega)) | (go_roundw; (case rel => first | exact ⟨i' + 1, j + 1, L.set i' x, by omega, by omega, by go_num, by go_num, HN, HGN, hbN⟩ | ((try refine ⟨trivial, ?_⟩); (repeat apply Exists.intro); exact ⟨⟨i' + 1, j + 1, L.set i' x, by omega, by omega, by go_num, by go_num, HN, HGN, hbN⟩, rfl⟩)); (case measure => (simp [intOf]; omega)))
      · have hjn2 : n ≤ j := by omega
        have HEE := Lib.hid (HD.out.done (by rw [Hl.out]; exact hjn2))
        have hin' : i' < n := by omega
        have hcl : ∀ ty, (Builtin.clear_ #[53] ty #[.slice (some ⟨g, i', none⟩) (n - i') (c - i')]).run Try.prog wr = .ok (.tuple #[]) (wr.setCells g i' ((List.replicate (n - i') (⟨#[]⟩ : ByteArray)).flatMap strE.cells)) := fun ty =>
          run_clear_k strE (⟨#[]⟩ : ByteArray) _ _ ty _ Try.underlying53 HZV.out rfl g i' (n - i') (c - i') (by omega)
            (fun k hk => hgl.cell (by show _ < _ * 1; have hk' : k < (n - i') * 1 := hk; omega)) (fun k hk => hgl.free _)
        have hgl2 := hgl.splice i' (List.replicate (n - i') (⟨#[]⟩ : ByteArray)) (by rw [List.length_replicate]; omega)
        rw [show i' * strE.k = i' from Nat.mul_one _] at hgl2
        have hgl3 := hgl2.cut i' (by omega)
        have HGF : Hid (GL strE 9 w0.heap.size (wr.setCells g i' ((List.replicate (n - i') (⟨#[]⟩ : ByteArray)).flatMap strE.cells)) (.slice (some ⟨g, 0, none⟩) i' c) (l.filter (confB x0.l x1.l x2.l))) := Lib.hid (by
          have hLl := hgl.len
          have e : (L.take i' ++ List.replicate (n - i') (⟨#[]⟩ : ByteArray) ++ L.drop (i' + (List.replicate (n - i') (⟨#[]⟩ : ByteArray)).length)).take i' = l.filter (confB x0.l x1.l x2.l) := by
            rw [List.append_assoc, List.take_append_of_le_length (by rw [List.length_take]; omega), List.take_take, Nat.min_self, HEE.out]
          rw [e] at hgl3
          exact hgl3)
        have hbF := below_setCells hgb ((List.replicate (n - i') (⟨#[]⟩ : ByteArray)).flatMap strE.cells) i' hbr
        obtain ⟨Wf, hWf⟩ : ∃ W, wr.setCells g i' ((List.replicate (n - i') (⟨#[]⟩ : ByteArray)).flatMap strE.cells) = W := ⟨_, rfl⟩
        rw [hWf] at hcl HGF hbF
        have hic : (i' : Int) ≤ (c : Int) := by omega
        have hcne : ¬ c = i' := by omega
        clear hWf hgl hgl2 hgl3 hbr HGL
        go_wp2
        go_ret
        exact ⟨i', by omega, rfl, HGF.out, hbF⟩

set_option maxHeartbeats 2000000 in
theorem i_conflicts (x0 x1 x2 : St3) (w : World) (hr0 : Rd settingE w x0.A x0.n x0.l) (hr1 : Rd settingE w x1.A x1.n x1.l) (hr2 : Rd settingE w x2.A x2.n x2.l) (hok : Ok3 x0.l x1.l x2.l) :
    Calls Try.prog 45 #[.slice x0.A x0.n x0.c, .slice x1.A x1.n x1.c, .slice x2.A x2.n x2.c] w (RetNames (conf3 x0.l x1.l x2.l) w) := by
  have m0 : x0.n ≤ 24 := by rw [← hr0.1]; exact hok.n0
  have m1 : x1.n ≤ 24 := by rw [← hr1.1]; exact hok.n1
  have m2 : x2.n ≤ 24 := by rw [← hr2.1]; exact hok.n2
  have HK := Lib.hid hok; clear hok
  have Ra := range_new w #[.slice x0.A x0.n x0.c] 38
  have ba : Below w.heap.size w (w.alloc (.cells #[.slice x0.A x0.n x0.c] 38)) := (Below.refl _ _).alloc (Nat.le_refl _) _
  obtain ⟨Wa, hWa⟩ : ∃ W, w.alloc (.cells #[.slice x0.A x0.n x0.c] 38) = W := ⟨_, rfl⟩
  rw [hWa] at Ra ba
  have ka := Ra 0 _ rfl
  have Rb := range_new Wa #[.slice x1.A x1.n x1.c] 38
  have bb : Below Wa.heap.size Wa (Wa.alloc (.cells #[.slice x1.A x1.n x1.c] 38)) := (Below.refl _ _).alloc (Nat.le_refl _) _
  obtain ⟨Wb, hWb⟩ : ∃ W, Wa.alloc (.cells #[.slice x1.A x1.n x1.c] 38) = W := ⟨_, rfl⟩
  rw [hWb] at Rb bb
  have kb := Rb 0 _ rfl
  have Rc := range_new Wb #[.slice x2.A x2.n x2.c] 38
  have bc : Below Wb.heap.size Wb (Wb.alloc (.cells #[.slice x2.A x2.n x2.c] 38)) := (Below.refl _ _).alloc (Nat.le_refl _) _
  obtain ⟨Wc, hWc⟩ : ∃ W, Wb.alloc (.cells #[.slice x2.A x2.n x2.c] 38) = W := ⟨_, rfl⟩
  rw [hWc] at Rc bc
  have kc := Rc 0 _ rfl
  have bbc := bb.trans (bc.mono bb.size)
  have babc := ba.trans (bbc.mono ba.size)
  simp only [Nat.zero_add] at ka kb kc
  have ha0 := cell_later bbc ka
  have hb0 := cell_later bc kb
  have hE : EnvC w.heap.size Wa.heap.size Wb.heap.size x0 x1 x2 Wc := ⟨ha0, hb0, kc, hr0.below babc, hr1.below babc, hr2.below babc⟩
  have HE := Lib.hid hE
  obtain ⟨qa, hqa⟩ : ∃ q, w.heap.size = q := ⟨_, rfl⟩
  obtain ⟨qb, hqb⟩ : ∃ q, Wa.heap.size = q := ⟨_, rfl⟩
  obtain ⟨qc, hqc⟩ : ∃ q, Wb.heap.size = q := ⟨_, rfl⟩
  rw [hqa] at ha0
  rw [hqb] at hb0
  rw [hqc] at kc
  rw [hqa, hqb, hqc] at HE
  have R9 := range_new Wc #[.slice x0.A x0.n x0.c, .slice x1.A x1.n x1.c, .slice x2.A x2.n x2.c] 38
  have b9 : Below Wc.heap.size Wc (Wc.alloc (.cells #[.slice x0.A x0.n x0.c, .slice x1.A x1.n x1.c, .slice x2.A x2.n x2.c] 38)) := (Below.refl _ _).alloc (Nat.le_refl _) _
  obtain ⟨Wd', hW9⟩ : ∃ W, Wc.alloc (.cells #[.slice x0.A x0.n x0.c, .slice x1.A x1.n x1.c, .slice x2.A x2.n x2.c] 38) = W := ⟨_, rfl⟩
  rw [hW9] at R9 b9
  have hS : Rd stE Wd' (some ⟨Wc.heap.size, 0, none⟩) 3 [x0, x1, x2] := by
    rw [← hW9]
    exact Rd.lit1 stE rfl rfl rfl
  have hE2 := HE.out.below b9
  have HF : Hid (names3 x0.l x1.l x2.l = uniqB (sortB (nmS (flatS [x0, x1, x2])))) := Lib.hid (by unfold names3 flatS; simp)
  clear Ra Rb Rc R9 ka kb hE ba bb bc bbc hr0 hr1 hr2
  go_enter Try.func45, Try.ntmps45
  go_wp2_with fail
  try rw [hWa]
  try rw [hWb]
  try rw [hWc]
  try rw [hqa]
  try rw [hqb]
  try rw [hqc]
  try rw [hW9]
  clear hWa hWb hWc hW9
  refine (i_namesOf _ 3 3 [x0, x1, x2] Wd' hS (by omega) (fun x hx => by
    simp only [List.mem_cons, List.not_mem_nil, or_false] at hx
    rcases hx with rfl | rfl | rfl
    · exact ⟨hE2.r0, m0⟩
    · exact ⟨hE2.r1, m1⟩
    · exact ⟨hE2.r2, m2⟩)).mono ?_
  rintro e w5 ⟨g, z, q, rfl, hgl, hb5⟩
  rw [← HF.out] at hgl
  have hz72 : z ≤ 72 := by rw [← hgl.len]; exact names3_few HK.out
  have hgl2 := hgl.mono b9.size
  have hb6 := b9.trans (hb5.mono b9.size)
  have hsz := babc.size
  clear hgl hb5 hS hE2 ha0 hb0 kc
  go_wp2_with fail
  refine (i_DeleteNames g z q qa qb qc x0 x1 x2 _ w5 Wc hgl2 (by omega) HE.out HK.out hb6).mono ?_
  rintro e w7 ⟨m, hm, rfl, hgl7, hb7⟩
  have hbF := babc.trans (hb7.mono hsz)
  have HG := Lib.hid (hgl7.mono hsz)
  clear hgl2 hgl7
  go_wp2
  go_ret
  exact ⟨_, m, q, rfl, HG.out, hbF⟩
end Go.Proofs.Ytfabijhilfjkcaa

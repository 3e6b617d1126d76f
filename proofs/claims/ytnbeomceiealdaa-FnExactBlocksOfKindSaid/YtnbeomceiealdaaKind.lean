/- The names of the blocks of a kind. -/
import Derived.Test.YtnbeomceiealdaaRows
import Derived.Test.YtnbeomceiealdaaGrow
import Derived.Test.YtnbeomceiealdaaBlocks
namespace Go.Proofs.Ytnbeomceiealdaa
set_option linter.unusedVariables false
set_option linter.unusedSimpArgs false
set_option linter.unusedSectionVars false
open Go.RowKit

def kindNames (kd : ByteArray) (l : List DBlock) : List ByteArray := (l.filter fun x => x.fKind.toList == kd.toList).map DBlock.fName
def kindList (kd : ByteArray) (l : List DBlock) : List ByteArray := if blocksB l then kindNames kd l else []
def kindCode (l : List DBlock) : Int := if blocksB l then 0 else 1
theorem kind_in {kd : ByteArray} {l : List DBlock} {k : Nat} {x : DBlock} (hx : l[k]? = some x) (h : (x.fKind.toList == kd.toList) = true) : kindNames kd (l.take (k + 1)) = kindNames kd (l.take k) ++ [x.fName] := by
  unfold kindNames
  rw [take_of_get hx, List.filter_append, List.map_append, List.filter_cons, if_pos h]
  rfl
theorem kind_out {kd : ByteArray} {l : List DBlock} {k : Nat} {x : DBlock} (hx : l[k]? = some x) (h : (x.fKind.toList == kd.toList) = false) : kindNames kd (l.take (k + 1)) = kindNames kd (l.take k) := by
  unfold kindNames
  rw [take_of_get hx, List.filter_append, List.map_append, List.filter_cons, if_neg (by rw [h]; simp)]
  simp

set_option maxHeartbeats 2000000 in
theorem S_BlocksOfKind (A : Option Addr) (n c : Nat) (l : List DBlock) (kd : ByteArray) (w : World) (hr : Rd blockE w A n l) (hn : n ≤ 1048576) (hg : ∀ x ∈ l, x.good) (hsum : sumBlock l ≤ 1048576) (hk : kd.size ≤ 1048576) :
    Calls Try.prog 21 #[.slice A n c, .string kd] w (RetLC strE 9 (kindList kd l) (kindCode l) w) := by
  have Hl := Lib.hid hr.1
  go_enter Try.func21, Try.ntmps21
  go_wp2_with fail
  refine (s_l29Ok A n c l _ hr (by unfold maxLen; omega) hg).mono ?_
  rintro e w1 ⟨rfl, hb1⟩
  rcases hB : blocksB l with _ | _
  · have HB := Lib.hid hB; clear hB
    go_wp2
    go_ret2
    exact RetLC.nil (by unfold kindList; rw [HB.out]; rfl) (by unfold kindCode; rw [HB.out]; rfl) hb1
  · have HB := Lib.hid hB; clear hB
    have hb2 : Below w.heap.size w (w1.alloc (.cells #[] 9)) := by (repeat (first | exact Below.refl _ _ | assumption | refine Below.drew ?_ | refine Below.alloc ?_ (by first | omega | (simp; done) | (simp; omega) | exact Below.size (by assumption)) _ | refine Below.setCell ?_ (by first | omega | (simp; done) | (simp; omega)) _))
    obtain ⟨i0, hi, hz0, hz1, hz2⟩ := info_parts Try.info_str
    go_wp2_with fail
    go_loopw [7, 6] (fun i v wr => ∃ (k : Nat) (kn : List ByteArray), k ≤ n ∧ i = .int .i64 k ∧ Below w.heap.size w wr ∧ GL strE 9 w.heap.size wr v kn ∧ kn.length ≤ k ∧ Hid (kn = kindNames kd (l.take k))) (fun i _ _ => n - (intOf i).toNat)
    case atStart => exact ⟨0, [], Nat.zero_le _, rfl, hb2, GL.mk0 hb1.size, Nat.le_refl _, Lib.hid rfl⟩
    case round =>
      obtain ⟨k, kn, hk', rfl, hb, hgl, hkn, HH⟩ := hrel
      obtain ⟨Ak, ck, rfl⟩ := hgl.form
      by_cases hlt : k < n
      · obtain ⟨b, off, rfl, hcs⟩ := hr.2 (by omega)
        obtain ⟨x, hx⟩ : ∃ x, l[k]? = some x := ⟨_, List.getElem?_eq_getElem (by have := Hl.out; omega)⟩
        have hcr := range_below (B := 0) (hcs k x hx) hb
        have hc0 := hcr 0 (.string x.fKind) rfl
        have hc1 := hcr 1 (.string x.fName) rfl
        simp only [blockE, Nat.add_zero] at hc0 hc1
        clear hcr
        rcases hq : x.fKind.toList == kd.toList with _ | _
        · have HK : Hid (kn = kindNames kd (l.take (k + 1))) := Lib.hid (by rw [HH.out, kind_out hx hq])
          clear hx hcs
          go_wp2
          first | (refine ⟨⟨k + 1, kn, by omega, by go_num, hb, hgl, by omega, HK⟩, ?_⟩; (simp [intOf]; omega)) | (go_roundw; (case rel => exact ⟨k + 1, kn, by omega, by go_num, hb, hgl, by omega, HK⟩); (case measure => (simp [intOf]; omega)))
        · have HK : Hid (kn ++ [x.fName] = kindNames kd (l.take (k + 1))) := Lib.hid (by rw [HH.out, kind_in hx hq])
          clear hx hcs
          have hbs := hb.size
          go_wp2_with (at_builtin; refine wpList_push strE rfl _ _ 39 rfl w.heap.size 9 i0 _ 16 Try.underlying39 hi hz0 hz1 hz2 rfl (.slice Ak kn.length ck) kn x.fName rfl (hgl.alloc _) wr.heap.size rfl (range_new _ _ _) (by omega) (by decide) w (by (repeat (first | exact Below.refl _ _ | assumption | refine Below.drew ?_ | refine Below.alloc ?_ (by first | omega | (simp; done) | (simp; omega) | exact Below.size (by assumption)) _ | refine Below.setCell ?_ (by first | omega | (simp; done) | (simp; omega)) _))) (by simp; omega) ?_; intro A' c' w2 hgl' hb' _)
          first | (refine ⟨⟨k + 1, kn ++ [x.fName], by omega, by go_num, hb', hgl', by simp; omega, HK⟩, ?_⟩; (simp [intOf]; omega)) | (go_roundw; (case rel => exact ⟨k + 1, kn ++ [x.fName], by omega, by go_num, hb', hgl', by simp; omega, HK⟩); (case measure => (simp [intOf]; omega)))
      · have E : Hid (kn = kindNames kd l) := Lib.hid (by rw [HH.out, List.take_of_length_le (by have := Hl.out; omega)])
        go_wp2
        go_ret2
        exact RetLC.mk hgl (by omega) (by unfold kindList; rw [HB.out, E.out]; rfl) (by unfold kindCode; rw [HB.out]; rfl) hb
set_option maxHeartbeats 2000000 in
theorem I_BlocksOfKind (A : Option Addr) (n c : Nat) (l : List DBlock) (kd : ByteArray) (w : World) (hr : Rd blockE w A n l) (hn : n ≤ 1048576) (hg : ∀ x ∈ l, x.good) (hsum : sumBlock l ≤ 1048576) (hk : kd.size ≤ 1048576) :
    Calls Try.prog 22 #[.slice A n c, .string kd] w (RetLC strE 9 (kindList kd l) (kindCode l) w) := by
  have Hl := Lib.hid hr.1
  go_enter Try.func22, Try.ntmps22
  go_wp2_with fail
  refine (i_ValidBlocks A n c l _ hr (by unfold maxLen; omega) hg).mono ?_
  rintro e w1 ⟨rfl, hb1⟩
  rcases hB : blocksB l with _ | _
  · have HB := Lib.hid hB; clear hB
    go_wp2
    go_ret2
    exact RetLC.nil (by unfold kindList; rw [HB.out]; rfl) (by unfold kindCode; rw [HB.out]; rfl) hb1
  · have HB := Lib.hid hB; clear hB
    have hb2 : Below w.heap.size w (w1.alloc (.cells #[] 9)) := by (repeat (first | exact Below.refl _ _ | assumption | refine Below.drew ?_ | refine Below.alloc ?_ (by first | omega | (simp; done) | (simp; omega) | exact Below.size (by assumption)) _ | refine Below.setCell ?_ (by first | omega | (simp; done) | (simp; omega)) _))
    obtain ⟨i0, hi, hz0, hz1, hz2⟩ := info_parts Try.info_str
    go_wp2_with fail
    go_loopw [15, 6] (fun i v wr => ∃ (k : Nat) (kn : List ByteArray), k ≤ n ∧ i = .int .i64 k ∧ Below w.heap.size w wr ∧ GL strE 9 w.heap.size wr v kn ∧ kn.length ≤ k ∧ Hid (kn = kindNames kd (l.take k))) (fun i _ _ => n - (intOf i).toNat)
    case atStart => exact ⟨0, [], Nat.zero_le _, rfl, hb2, GL.mk0 hb1.size, Nat.le_refl _, Lib.hid rfl⟩
    case round =>
      obtain ⟨k, kn, hk', rfl, hb, hgl, hkn, HH⟩ := hrel
      obtain ⟨Ak, ck, rfl⟩ := hgl.form
      by_cases hlt : k < n
      · obtain ⟨b, off, rfl, hcs⟩ := hr.2 (by omega)
        obtain ⟨x, hx⟩ : ∃ x, l[k]? = some x := ⟨_, List.getElem?_eq_getElem (by have := Hl.out; omega)⟩
        have hcr := range_below (B := 0) (hcs k x hx) hb
        have hc0 := hcr 0 (.string x.fKind) rfl
        have hc1 := hcr 1 (.string x.fName) rfl
        have hc2 := hcr 2 (.string x.fText) rfl
        simp only [blockE, Nat.add_zero] at hc0 hc1 hc2
        clear hcr
        rcases hq : x.fKind.toList == kd.toList with _ | _
        · have HK : Hid (kn = kindNames kd (l.take (k + 1))) := Lib.hid (by rw [HH.out, kind_out hx hq])
          clear hx hcs
          go_wp2
          first | (refine ⟨⟨k + 1, kn, by omega, by go_num, by (repeat (first | exact Below.refl _ _ | assumption | refine Below.drew ?_ | refine Below.alloc ?_ (by first | omega | (simp; done) | (simp; omega) | exact Below.size (by assumption)) _ | refine Below.setCell ?_ (by first | omega | (simp; done) | (simp; omega)) _)), hgl.alloc _, by omega, HK⟩, ?_⟩; (simp [intOf]; omega)) | (go_roundw; (case rel => exact ⟨k + 1, kn, by omega, by go_num, by (repeat (first | exact Below.refl _ _ | assumption | refine Below.drew ?_ | refine Below.alloc ?_ (by first | omega | (simp; done) | (simp; omega) | exact Below.size (by assumption)) _ | refine Below.setCell ?_ (by first | omega | (simp; done) | (simp; omega)) _)), hgl.alloc _, by omega, HK⟩); (case measure => (simp [intOf]; omega)))
        · have HK : Hid (kn ++ [x.fName] = kindNames kd (l.take (k + 1))) := Lib.hid (by rw [HH.out, kind_in hx hq])
          clear hx hcs
          have hbs := hb.size
          have hgl1 := hgl.alloc (.cells #[.string x.fKind, .string x.fName, .string x.fText] 26)
          have hb3 : Below w.heap.size w (wr.alloc (.cells #[.string x.fKind, .string x.fName, .string x.fText] 26)) := by (repeat (first | exact Below.refl _ _ | assumption | refine Below.drew ?_ | refine Below.alloc ?_ (by first | omega | (simp; done) | (simp; omega) | exact Below.size (by assumption)) _ | refine Below.setCell ?_ (by first | omega | (simp; done) | (simp; omega)) _))
          go_wp2_with (at_builtin; refine wpList_push strE rfl _ _ 39 rfl w.heap.size 9 i0 _ 16 Try.underlying39 hi hz0 hz1 hz2 rfl (.slice Ak kn.length ck) kn x.fName rfl (hgl1.alloc _) _ rfl (range_new' _ _ _ (by simp)) (by omega) (by decide) w (hb3.alloc (by simp; omega) _) (by simp; omega) ?_; intro A' c' w2 hgl' hb' _)
          first | (refine ⟨⟨k + 1, kn ++ [x.fName], by omega, by go_num, hb', hgl', by simp; omega, HK⟩, ?_⟩; (simp [intOf]; omega)) | (go_roundw; (case rel => exact ⟨k + 1, kn ++ [x.fName], by omega, by go_num, hb', hgl', by simp; omega, HK⟩); (case measure => (simp [intOf]; omega)))
      · have E : Hid (kn = kindNames kd l) := Lib.hid (by rw [HH.out, List.take_of_length_le (by have := Hl.out; omega)])
        go_wp2
        go_ret2
        exact RetLC.mk hgl (by omega) (by unfold kindList; rw [HB.out, E.out]; rfl) (by unfold kindCode; rw [HB.out]; rfl) hb
end Go.Proofs.Ytnbeomceiealdaa

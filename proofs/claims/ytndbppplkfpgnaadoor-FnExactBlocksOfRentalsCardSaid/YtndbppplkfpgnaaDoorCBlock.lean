/- Block: how one lies, and the law files' helpers on it. -/
import Derived.Test.YtndbppplkfpgnaaDoorRows
import Derived.Test.YtndbppplkfpgnaaDoorMem
import Derived.Test.YtndbppplkfpgnaaDoorLaw
import Derived.Test.YtndbppplkfpgnaaDoorConvS
import Derived.Test.YtndbppplkfpgnaaDoorMarks
import Derived.StillTailTactics
import Derived.Laws.StructEq
namespace Go.Proofs.YtndbppplkfpgnaaDoor
set_option linter.unusedVariables false
set_option linter.unusedSimpArgs false
set_option linter.unusedSectionVars false
open Go.RowKit
set_option maxRecDepth 100000

structure DBlock where
  fKind : ByteArray
  fName : ByteArray
  fText : ByteArray
def blockE : Enc DBlock := ⟨3, fun x => [.string x.fKind, .string x.fName, .string x.fText], fun _ => rfl, by decide, fun _ u h => by simp at h; rcases h with rfl | rfl | rfl <;> rfl⟩
def DBlock.val (x : DBlock) : Value := .agg #[.string x.fKind, .string x.fName, .string x.fText]
def DBlock.good (x : DBlock) : Prop := x.fKind.size ≤ maxLen ∧ x.fName.size ≤ maxLen ∧ x.fText.size ≤ maxLen
def DBlock.sz (x : DBlock) : Int := x.fKind.size + x.fName.size + x.fText.size
def sumBlock : List DBlock → Int
  | [] => 0
  | x :: r => x.sz + sumBlock r
theorem DBlock.sz_nonneg (x : DBlock) : 0 ≤ x.sz := by unfold DBlock.sz; omega
theorem sumBlock_nonneg (l : List DBlock) : 0 ≤ sumBlock l := by
  induction l with
  | nil => simp [sumBlock]
  | cons s r ih => have := s.sz_nonneg; simp only [sumBlock]; omega
theorem sumBlock_mem {l : List DBlock} {x : DBlock} (h : x ∈ l) : x.sz ≤ sumBlock l := by
  induction l with
  | nil => cases h
  | cons y r ih =>
    have h0 := sumBlock_nonneg r
    have h1 := y.sz_nonneg
    simp only [sumBlock]
    cases List.mem_cons.1 h with
    | inl e => subst e; omega
    | inr e => have := ih e; omega


/-- whether two are the same, field by field -/
def DBlock.eqv (x y : DBlock) : Bool := (x.fKind.toList == y.fKind.toList) && ((x.fName.toList == y.fName.toList) && (x.fText.toList == y.fText.toList))
theorem DBlock.eqv_iff (x y : DBlock) : x.eqv y = true ↔ x = y := by
  constructor
  · intro h
    simp only [DBlock.eqv, Bool.and_eq_true, beq_iff_eq] at h
    obtain ⟨e0, e1, e2⟩ := h
    cases x; cases y
    simp only [DBlock.mk.injEq]
    exact ⟨ba_ext (by simpa [ByteArray.toList_eq] using e0), ba_ext (by simpa [ByteArray.toList_eq] using e1), ba_ext (by simpa [ByteArray.toList_eq] using e2)⟩
  · rintro rfl
    simp [DBlock.eqv]

theorem run_eql_Block (x y : DBlock) (w : World) : (binOp .eql 42 (.agg #[.string x.fKind, .string x.fName, .string x.fText]) (.agg #[.string y.fKind, .string y.fName, .string y.fText])).run Tryd.prog w = .ok (.bool (x.eqv y)) w := by
  have hS : Tryd.prog.underlying 42 = some (.struct (Tryd.prog.fieldsOf 42)) := by kernel_rfl
  have hp : Tryd.prog.stoodInHeld 42 = false := by kernel_rfl
  rw [run_eql_struct, show (10000 : Nat) = 9999 + 1 from rfl, run_equalIn_agg w 9999 42 _ _ hS hp]
  simp only [Program.fieldsOf, Tryd.underlying42]
  go_simp
  unfold DBlock.eqv
  rcases h0 : (x.fKind.toList == y.fKind.toList) with _ | _ <;> rcases h1 : (x.fName.toList == y.fName.toList) with _ | _ <;> rcases h2 : (x.fText.toList == y.fText.toList) with _ | _ <;> simp_all
theorem run_neq_Block (x y : DBlock) (w : World) : (binOp .neq 42 (.agg #[.string x.fKind, .string x.fName, .string x.fText]) (.agg #[.string y.fKind, .string y.fName, .string y.fText])).run Tryd.prog w = .ok (.bool (!x.eqv y)) w := by
  have hS : Tryd.prog.underlying 42 = some (.struct (Tryd.prog.fieldsOf 42)) := by kernel_rfl
  have hp : Tryd.prog.stoodInHeld 42 = false := by kernel_rfl
  rw [run_neq_struct, show (10000 : Nat) = 9999 + 1 from rfl, run_equalIn_agg w 9999 42 _ _ hS hp]
  simp only [Program.fieldsOf, Tryd.underlying42]
  go_simp
  unfold DBlock.eqv
  rcases h0 : (x.fKind.toList == y.fKind.toList) with _ | _ <;> rcases h1 : (x.fName.toList == y.fName.toList) with _ | _ <;> rcases h2 : (x.fText.toList == y.fText.toList) with _ | _ <;> simp_all

set_option maxHeartbeats 400000 in
theorem l_eqBlock (x : DBlock) (w : World) :
    Calls Tryd.prog 19 #[.agg #[.string x.fKind, .string x.fName, .string x.fText], .agg #[.string x.fKind, .string x.fName, .string x.fText]] w (RetB true w) := by
  go_enter Tryd.func19, Tryd.ntmps19
  go_wp2
  go_ret
  exact ⟨rfl, by (repeat (first | exact Below.refl _ _ | assumption | refine Below.drew ?_ | refine Below.alloc ?_ (by first | omega | (simp; done) | (simp; omega) | exact Below.size (by assumption)) _ | refine Below.setCell ?_ (by first | omega | (simp; done) | (simp; omega)) _))⟩

set_option maxHeartbeats 400000 in
theorem l_eqBlockS (A A' : Option Addr) (n c c' : Nat) (l : List DBlock) (w : World) (hr : Rd blockE w A n l) (hr' : Rd blockE w A' n l) (hn : n ≤ maxLen) :
    Calls Tryd.prog 8 #[.slice A n c, .slice A' n c'] w (RetB true w) := by
  unfold maxLen at hn
  go_enter Tryd.func8, Tryd.ntmps8
  go_wp2
  go_loopw [5] (fun i wr => ∃ k : Nat, k ≤ n ∧ i = .int .i64 k ∧ Below w.heap.size w wr) (fun i _ => n - (intOf i).toNat)
  case atStart => exact ⟨0, Nat.zero_le _, rfl, by (repeat (first | exact Below.refl _ _ | assumption | refine Below.drew ?_ | refine Below.alloc ?_ (by first | omega | (simp; done) | (simp; omega) | exact Below.size (by assumption)) _ | refine Below.setCell ?_ (by first | omega | (simp; done) | (simp; omega)) _))⟩
  case round =>
    obtain ⟨k, hk, rfl, hb⟩ := hrel
    by_cases hkn : k < n
    · obtain ⟨b, off, x, rfl, hks, hc⟩ := hr.get hkn
      obtain ⟨b', off', x', rfl, hks', hc'⟩ := hr'.get hkn
      obtain rfl : x = x' := Option.some.inj (hks.symm.trans hks')
      have hc0 := range_below (B := 0) hc hb 0 _ rfl
      have hc1 := range_below (B := 0) hc hb 1 _ rfl
      have hc2 := range_below (B := 0) hc hb 2 _ rfl
      simp only [blockE, Nat.add_zero] at hc0 hc1 hc2
      have hd0 := range_below (B := 0) hc' hb 0 _ rfl
      have hd1 := range_below (B := 0) hc' hb 1 _ rfl
      have hd2 := range_below (B := 0) hc' hb 2 _ rfl
      simp only [blockE, Nat.add_zero] at hd0 hd1 hd2
      clear hc hc' hks hks'
      go_wp2_with fail
      go_still_tail 8, (by kernel_rfl)
      change wpList _ _ _ _ _ wr.drew
      go_wp2_with fail
      refine (l_eqBlock x _).mono ?_
      rintro e w1 ⟨rfl, hb1⟩
      have hb2 := hb.drew.trans (hb1.mono hb.size)
      go_wp2
      first | (refine ⟨⟨k + 1, by omega, by go_num, hb2⟩, ?_⟩; (simp [intOf]; omega)) | (go_roundw; (case rel => first | exact ⟨k + 1, by omega, by go_num, hb2⟩ | ((try refine ⟨trivial, ?_⟩); (repeat apply Exists.intro); exact ⟨⟨k + 1, by omega, by go_num, hb2⟩, rfl⟩)); (case measure => (simp [intOf]; omega)))
    · go_wp2
      go_ret
      exact ⟨rfl, hb⟩

def mark1Block (m : Nat) : DBlock := ⟨mt (m + 0), mt (m + 1), mt (m + 2)⟩
def markLBlock (n k : Nat) : List DBlock := (List.range n).map fun i => mark1Block (k + 3 * i)
theorem markLBlock_get (n k i : Nat) (h : i < n) : (markLBlock n k)[i]? = some (mark1Block (k + 3 * i)) := by simp [markLBlock, h]
theorem markLBlock_len (n k : Nat) : (markLBlock n k).length = n := by simp [markLBlock]

set_option maxHeartbeats 1000000 in
theorem l_markBlockS (F : Nat → Prop) (A : Option Addr) (n c : Nat) (l : List DBlock) (k0 : Int) (w : World) (hO : OL blockE 42 F w A n c l) (hn : n ≤ 34359738368) (h0 : 0 ≤ k0) (h1 : k0 ≤ 549755813888) :
    Calls Tryd.prog 11 #[.slice A n c, .int .i64 k0] w (MarkR blockE 42 F A n c (markLBlock n k0.toNat) (k0 + 3 * n) w) := by
  obtain ⟨m, rfl⟩ := Int.eq_ofNat_of_zero_le h0
  rw [Int.toNat_natCast]
  have HM := Lib.hid (markLBlock_len n m)
  go_enter Tryd.func11, Tryd.ntmps11
  go_wp2_with fail
  go_loopw [1, 5] (fun t i wr => ∃ k : Nat, k ≤ n ∧ i = .int .i64 k ∧ t = .int .i64 (m + 3 * k) ∧ PartV blockE 42 0 A n c (markLBlock n m) k wr ∧ Touch F w wr) (fun _ i _ => n - (intOf i).toNat)
  case atStart => exact ⟨0, Nat.zero_le _, rfl, by go_num, PartV.start hO.1 hO.2.1, Touch.refl F w⟩
  case round =>
    obtain ⟨k, hk, rfl, rfl, hp, ht⟩ := hrel
    by_cases hkn : k < n
    · obtain ⟨g, rfl⟩ := hp.form (by omega)
      have hFg := hO.2.2 g rfl
      have HK := Lib.hid (markLBlock_get n m k hkn)
      obtain ⟨zs, hz, htk, ho⟩ := hp
      have Hz := Lib.hid hz
      have Htk := Lib.hid htk
      clear hz htk
      simp only [blockE] at ho
      go_wp2_with fail
      refine (l_markText_at _ _ (by omega) (by omega)).mono ?_
      rintro e w1 ⟨T0, rfl, HT0, hb0⟩
      replace ht := ht.trans (Touch.of_below hb0)
      replace ho := own_below ho hb0
      obtain ⟨u0, hu0⟩ := own_cell ho (j := k * 3) (by omega)
      have hf0 := ho.frozenAt (k * 3)
      replace ho := (ho.stored (k * 3) (.string T0)).1
      replace ht := ht.trans (Touch.setCell (p := ⟨g, k * 3, none⟩) hFg (.string T0))
      go_wp2_with fail
      refine (l_markText_at _ _ (by omega) (by omega)).mono ?_
      rintro e w2 ⟨T1, rfl, HT1, hb1⟩
      replace ht := ht.trans (Touch.of_below hb1)
      replace ho := own_below ho hb1
      obtain ⟨u1, hu1⟩ := own_cell ho (j := k * 3 + 1) (by omega)
      have hf1 := ho.frozenAt (k * 3 + 1)
      replace ho := (ho.stored (k * 3 + 1) (.string T1)).1
      replace ht := ht.trans (Touch.setCell (p := ⟨g, k * 3 + 1, none⟩) hFg (.string T1))
      go_wp2_with fail
      refine (l_markText_at _ _ (by omega) (by omega)).mono ?_
      rintro e w3 ⟨T2, rfl, HT2, hb2⟩
      replace ht := ht.trans (Touch.of_below hb2)
      replace ho := own_below ho hb2
      obtain ⟨u2, hu2⟩ := own_cell ho (j := k * 3 + 2) (by omega)
      have hf2 := ho.frozenAt (k * 3 + 2)
      replace ho := (ho.stored (k * 3 + 2) (.string T2)).1
      replace ht := ht.trans (Touch.setCell (p := ⟨g, k * 3 + 2, none⟩) hFg (.string T2))
      have HC : Hid ([.string T0, .string T1, .string T2] = blockE.cells (mark1Block (m + 3 * k))) := Lib.hid (by
        rw [show T0 = mt (m + 3 * k + 0) from HT0.out.trans (congrArg mt (by omega))]
        rw [show T1 = mt (m + 3 * k + 1) from HT1.out.trans (congrArg mt (by omega))]
        rw [show T2 = mt (m + 3 * k + 2) from HT2.out.trans (congrArg mt (by omega))]
        rfl)
      have HP := Lib.hid (PartV.of_sets (E := blockE) Hz.out Htk.out HK.out hkn (by rw [← HC.out]; exact ho))
      go_wp2
      first | (refine ⟨⟨k + 1, by omega, by go_num, by go_num, HP.out, ht⟩, ?_⟩; (simp [intOf]; omega)) | (go_roundw; (case rel => first | exact ⟨k + 1, by omega, by go_num, by go_num, HP.out, ht⟩ | ((try refine ⟨trivial, ?_⟩); (repeat apply Exists.intro); exact ⟨⟨k + 1, by omega, by go_num, by go_num, HP.out, ht⟩, rfl⟩)); (case measure => (simp [intOf]; omega)))
    · go_wp2
      go_ret
      obtain rfl : k = n := by omega
      exact ⟨by go_num, ⟨hp.done HM.out (Nat.le_refl _), HM.out, hO.2.2⟩, ht⟩

set_option maxHeartbeats 2000000 in
theorem l_heldBlockS (F : Nat → Prop) (A : Option Addr) (n c : Nat) (k0 : Int) (w : World) (hO : OL blockE 42 F w A n c (markLBlock n k0.toNat)) (hn : n ≤ 34359738368) (h0 : 0 ≤ k0) (h1 : k0 ≤ 549755813888) :
    Calls Tryd.prog 12 #[.slice A n c, .int .i64 k0] w (HeldR (k0 + 3 * n) w) := by
  obtain ⟨m, rfl⟩ := Int.eq_ofNat_of_zero_le h0
  rw [Int.toNat_natCast] at hO
  have hr := hO.rd
  go_enter Tryd.func12, Tryd.ntmps12
  go_wp2_with fail
  go_loopw [1, 5] (fun t i wr => ∃ k : Nat, k ≤ n ∧ i = .int .i64 k ∧ t = .int .i64 (m + 3 * k) ∧ Below w.heap.size w wr) (fun _ i _ => n - (intOf i).toNat)
  case atStart => exact ⟨0, Nat.zero_le _, rfl, by go_num, Below.refl _ _⟩
  case round =>
    obtain ⟨k, hk, rfl, rfl, hb⟩ := hrel
    by_cases hkn : k < n
    · obtain ⟨b, off, x, rfl, hks, hc⟩ := hr.get hkn
      obtain rfl : x = mark1Block (m + 3 * k) := Option.some.inj (hks.symm.trans (markLBlock_get n m k hkn))
      clear hks
      have HC := Lib.hid hc; clear hc
      have hc0 := range_below (B := 0) HC.out hb 0 (.string (mt (m + 3 * k + 0))) rfl
      simp only [blockE, Nat.add_zero] at hc0
      have HM0 : Hid (∀ W, Calls Tryd.prog 21 #[.int .i64 ((m : Int) + 3 * k)] W fun e w' => e = .returned (.string (mt (m + 3 * k + 0))) ∧ Below W.heap.size W w') := Lib.hid (by
        intro W
        have := l_markText (m + 3 * k + 0) W (by omega)
        rw [show ((m + 3 * k + 0 : Nat) : Int) = (m : Int) + 3 * k from by omega] at this
        exact this)
      go_wp2_with fail
      go_region_held3 (fun w' => w'.cell? ⟨b, off + k * 3, none⟩ = some (.string (mt (m + 3 * k + 0))) ∧ Below w.heap.size w w') (first | exact ⟨hc0, hb.drew⟩ | (go_split_ands; exact ⟨cell_later hbm (by assumption), Below.trans (by assumption) (hbm.mono (Below.size (by assumption)))⟩) | (go_split_ands; exact ⟨by assumption, by assumption⟩))
        (first | (go_at_call 21; refine (HM0.out _).mono ?_; rintro e w0 ⟨rfl, hbm⟩))
      rename_i hh
      obtain ⟨_, hb0⟩ := hh
      clear hbm hc0
      have hc1 := range_below (B := 0) HC.out hb0 1 (.string (mt (m + 3 * k + 1))) rfl
      simp only [blockE, Nat.add_zero] at hc1
      have HM1 : Hid (∀ W, Calls Tryd.prog 21 #[.int .i64 ((m : Int) + 3 * k + 1)] W fun e w' => e = .returned (.string (mt (m + 3 * k + 1))) ∧ Below W.heap.size W w') := Lib.hid (by
        intro W
        have := l_markText (m + 3 * k + 1) W (by omega)
        rw [show ((m + 3 * k + 1 : Nat) : Int) = (m : Int) + 3 * k + 1 from by omega] at this
        exact this)
      go_wp2_with fail
      go_region_held3 (fun w' => w'.cell? ⟨b, off + k * 3 + 1, none⟩ = some (.string (mt (m + 3 * k + 1))) ∧ Below w.heap.size w w') (first | exact ⟨hc1, hb0.drew⟩ | (go_split_ands; exact ⟨cell_later hbm (by assumption), Below.trans (by assumption) (hbm.mono (Below.size (by assumption)))⟩) | (go_split_ands; exact ⟨by assumption, by assumption⟩))
        (first | (go_at_call 21; refine (HM1.out _).mono ?_; rintro e w1 ⟨rfl, hbm⟩))
      rename_i hh
      obtain ⟨_, hb1⟩ := hh
      clear hbm hc1
      have hc2 := range_below (B := 0) HC.out hb1 2 (.string (mt (m + 3 * k + 2))) rfl
      simp only [blockE, Nat.add_zero] at hc2
      have HM2 : Hid (∀ W, Calls Tryd.prog 21 #[.int .i64 ((m : Int) + 3 * k + 1 + 1)] W fun e w' => e = .returned (.string (mt (m + 3 * k + 2))) ∧ Below W.heap.size W w') := Lib.hid (by
        intro W
        have := l_markText (m + 3 * k + 2) W (by omega)
        rw [show ((m + 3 * k + 2 : Nat) : Int) = (m : Int) + 3 * k + 1 + 1 from by omega] at this
        exact this)
      go_wp2_with fail
      go_region_held3 (fun w' => w'.cell? ⟨b, off + k * 3 + 2, none⟩ = some (.string (mt (m + 3 * k + 2))) ∧ Below w.heap.size w w') (first | exact ⟨hc2, hb1.drew⟩ | (go_split_ands; exact ⟨cell_later hbm (by assumption), Below.trans (by assumption) (hbm.mono (Below.size (by assumption)))⟩) | (go_split_ands; exact ⟨by assumption, by assumption⟩))
        (first | (go_at_call 21; refine (HM2.out _).mono ?_; rintro e w2 ⟨rfl, hbm⟩))
      rename_i hh
      obtain ⟨_, hb2⟩ := hh
      clear hbm hc2
      go_wp2
      first | (refine ⟨⟨k + 1, by omega, by go_num, by go_num, hb2⟩, ?_⟩; (simp [intOf]; omega)) | (go_roundw; (case rel => first | exact ⟨k + 1, by omega, by go_num, by go_num, hb2⟩ | ((try refine ⟨trivial, ?_⟩); (repeat apply Exists.intro); exact ⟨⟨k + 1, by omega, by go_num, by go_num, hb2⟩, rfl⟩)); (case measure => (simp [intOf]; omega)))
    · go_wp2
      go_ret
      obtain rfl : k = n := by omega
      exact ⟨by go_num, hb⟩

end Go.Proofs.YtndbppplkfpgnaaDoor


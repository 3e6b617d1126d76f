/- Block: how one lies, and the law files' helpers on it. -/
import Derived.Test.YtndbppplkfpgnaaGreatDoorRows
import Derived.Test.YtndbppplkfpgnaaGreatDoorMem
import Derived.Test.YtndbppplkfpgnaaGreatDoorLaw
import Derived.Test.YtndbppplkfpgnaaGreatDoorConvS
import Derived.Test.YtndbppplkfpgnaaGreatDoorMarks
import Derived.StillTailTactics
import Derived.Laws.StructEq
namespace Go.Proofs.YtndbppplkfpgnaaGreatDoor
set_option linter.unusedVariables false
set_option linter.unusedSimpArgs false
set_option linter.unusedSectionVars false
open Go.RowKit
set_option maxRecDepth 100000

structure DBlock where
  fKind : ByteArray
  fName : ByteArray
  fText : ByteArray
def blockE : Enc DBlock := ⟨3, fun x => [.string x.fKind, .string x.fName, .string x.fText], fun _ => rfl, by decide, fun _ u h => by simp at h; rcases h with rfl | rfl | rfl <;> rfl⟩
def DBlock.val (x : DBlock) : Value := .agg #[.string x.fKind, .string x.fName, .string x.fText]
def DBlock.good (x : DBlock) : Prop := x.fKind.size ≤ maxLen ∧ x.fName.size ≤ maxLen ∧ x.fText.size ≤ maxLen
def DBlock.sz (x : DBlock) : Int := x.fKind.size + x.fName.size + x.fText.size
def sumBlock : List DBlock → Int
  | [] => 0
  | x :: r => x.sz + sumBlock r
theorem DBlock.sz_nonneg (x : DBlock) : 0 ≤ x.sz := by unfold DBlock.sz; omega
theorem sumBlock_nonneg (l : List DBlock) : 0 ≤ sumBlock l := by
  induction l with
  | nil => simp [sumBlock]
  | cons s r ih => have := s.sz_nonneg; simp only [sumBlock]; omega
theorem sumBlock_mem {l : List DBlock} {x : DBlock} (h : x ∈ l) : x.sz ≤ sumBlock l := by
  induction l with
  | nil => cases h
  | cons y r ih =>
    have h0 := sumBlock_nonneg r
    have h1 := y.sz_nonneg
    simp only [sumBlock]
    cases List.mem_cons.1 h with
    | inl e => subst e; omega
    | inr e => have := ih e; omega


/-- whether two are the same, field by field -/
def DBlock.eqv (x y : DBlock) : Bool := (x.fKind.toList == y.fKind.toList) && ((x.fName.toList == y.fName.toList) && (x.fText.toList == y.fText.toList))
theorem DBlock.eqv_iff (x y : DBlock) : x.eqv y = true ↔ x = y := by
  constructor
  · intro h
    simp only [DBlock.eqv, Bool.and_eq_true, beq_iff_eq] at h
    obtain ⟨e0, e1, e2⟩ := h
    cases x; cases y
    simp only [DBlock.mk.injEq]
    exact ⟨ba_ext (by simpa [ByteArray.toList_eq] using e0), ba_ext (by simpa [ByteArray.toList_eq] using e1), ba_ext (by simpa [ByteArray.toList_eq] using e2)⟩
  · rintro rfl
    simp [DBlock.eqv]

theorem run_eql_Block (x y : DBlock) (w : World) : (binOp .eql 38 (.agg #[.string x.fKind, .string x.fName, .string x.fText]) (.agg #[.string y.fKind, .string y.fName, .string y.fText])).run Tryz.prog w = .ok (.bool (x.eqv y)) w := by
  have hS : Tryz.prog.underlying 38 = some (.struct (Tryz.prog.fieldsOf 38)) := by kernel_rfl
  have hp : Tryz.prog.stoodInHeld 38 = false := by kernel_rfl
  rw [run_eql_struct, show (10000 : Nat) = 9999 + 1 from rfl, run_equalIn_agg w 9999 38 _ _ hS hp]
  simp only [Program.fieldsOf, Tryz.underlying38]
  go_simp
  unfold DBlock.eqv
  rcases h0 : (x.fKind.toList == y.fKind.toList) with _ | _ <;> rcases h1 : (x.fName.toList == y.fName.toList) with _ | _ <;> rcases h2 : (x.fText.toList == y.fText.toList) with _ | _ <;> simp_all
theorem run_neq_Block (x y : DBlock) (w : World) : (binOp .neq 38 (.agg #[.string x.fKind, .string x.fName, .string x.fText]) (.agg #[.string y.fKind, .string y.fName, .string y.fText])).run Tryz.prog w = .ok (.bool (!x.eqv y)) w := by
  have hS : Tryz.prog.underlying 38 = some (.struct (Tryz.prog.fieldsOf 38)) := by kernel_rfl
  have hp : Tryz.prog.stoodInHeld 38 = false := by kernel_rfl
  rw [run_neq_struct, show (10000 : Nat) = 9999 + 1 from rfl, run_equalIn_agg w 9999 38 _ _ hS hp]
  simp only [Program.fieldsOf, Tryz.underlying38]
  go_simp
  unfold DBlock.eqv
  rcases h0 : (x.fKind.toList == y.fKind.toList) with _ | _ <;> rcases h1 : (x.fName.toList == y.fName.toList) with _ | _ <;> rcases h2 : (x.fText.toList == y.fText.toList) with _ | _ <;> simp_all

theorem el_Block {H : Type} {enc : TypeId × Value → H} {w : World} {base : Nat} {spare : Nat → Bool} {held : Bool} (n : Nat) (cs : List Value) (y : DataW H × List MemPlace) (h : DataW.trod enc Tryz.prog w base spare held n 36 cs = some y) : ∃ x, cs = blockE.cells x ∧ x.good := by
  obtain ⟨xs, m, _, _, hlen, _, hf⟩ := DataW.trod_struct Tryz.underlying36 h
  have hlen' : cs.length = 3 := hlen.trans (by kernel_rfl)
  have g0 := hf 0 _ rfl
  have g1 := hf 1 _ rfl
  have g2 := hf 2 _ rfl
  match cs, hlen' with
  | [c0, c1, c2], _ =>
    have e0 : (([c0, c1, c2].drop 0).take (Tryz.prog.cellsOf 9)) = [c0] := by rw [show Tryz.prog.cellsOf 9 = 1 by kernel_rfl]; rfl
    obtain ⟨y0, hy0⟩ : ∃ y, DataW.trod enc Tryz.prog w base spare held m 9 [c0] = some y := by rw [← e0]; exact ⟨_, g0.trans (List.getElem?_eq_getElem (by simp_all))⟩
    obtain ⟨x0, hx0, _, hz0⟩ := DataW.trod_string Tryz.underlying9 hy0
    have e1 : (([c0, c1, c2].drop 1).take (Tryz.prog.cellsOf 9)) = [c1] := by rw [show Tryz.prog.cellsOf 9 = 1 by kernel_rfl]; rfl
    obtain ⟨y1, hy1⟩ : ∃ y, DataW.trod enc Tryz.prog w base spare held m 9 [c1] = some y := by rw [← e1]; exact ⟨_, g1.trans (List.getElem?_eq_getElem (by simp_all))⟩
    obtain ⟨x1, hx1, _, hz1⟩ := DataW.trod_string Tryz.underlying9 hy1
    have e2 : (([c0, c1, c2].drop 2).take (Tryz.prog.cellsOf 9)) = [c2] := by rw [show Tryz.prog.cellsOf 9 = 1 by kernel_rfl]; rfl
    obtain ⟨y2, hy2⟩ : ∃ y, DataW.trod enc Tryz.prog w base spare held m 9 [c2] = some y := by rw [← e2]; exact ⟨_, g2.trans (List.getElem?_eq_getElem (by simp_all))⟩
    obtain ⟨x2, hx2, _, hz2⟩ := DataW.trod_string Tryz.underlying9 hy2
    refine ⟨⟨x0, x1, x2⟩, ?_, hz0, hz1, hz2⟩
    simp only [List.cons.injEq, and_true] at hx0 hx1 hx2
    subst hx0 hx1 hx2
    rfl

theorem open_Block {H : Type} {enc : TypeId × Value → H} {w : World} {base : Nat} {spare : Nat → Bool} {held : Bool} {r : Reach} {b0 : Nat} {v : Value} {d : DataW H} {p : List MemPlace} (hv : Value.okWide Tryz.prog w r b0 36 v)
    (h : DataW.Trod enc Tryz.prog w base spare held 36 v d p) : ∃ x : DBlock, v = .agg #[.string x.fKind, .string x.fName, .string x.fText] ∧ x.good := by
  obtain ⟨cs, rfl, hsz⟩ := WideShapes.okWide_struct Tryz.underlying36 hv
  obtain ⟨fuel, hf⟩ := h
  obtain ⟨x, hx, hg⟩ := el_Block fuel _ _ hf
  refine ⟨x, ?_, hg⟩
  congr 1
  apply Array.toList_inj.1
  exact hx

set_option maxHeartbeats 400000 in
theorem l_szBlock (x : DBlock) (left : Int) (w : World) (hg : x.good) (h0 : 0 ≤ left) (h1 : left ≤ 1048576) :
    Calls Tryz.prog 13 #[.agg #[.string x.fKind, .string x.fName, .string x.fText], .int .i64 left] w (SzB left x.sz w) := by
  obtain ⟨g0, g1, g2⟩ := hg
  unfold maxLen at g0 g1 g2
  by_cases c0 : left - x.fKind.size < 0
  · go_enter Tryz.func13, Tryz.ntmps13
    go_wp2
    go_ret
    exact SzB.neg (by (repeat (first | exact Below.refl _ _ | assumption | refine Below.drew ?_ | refine Below.alloc ?_ (by first | omega | (simp; done) | (simp; omega) | exact Below.size (by assumption)) _ | refine Below.setCell ?_ (by first | omega | (simp; done) | (simp; omega)) _)))
  · by_cases c1 : left - x.fKind.size - x.fName.size < 0
    · go_enter Tryz.func13, Tryz.ntmps13
      go_wp2
      go_ret
      exact SzB.neg (by (repeat (first | exact Below.refl _ _ | assumption | refine Below.drew ?_ | refine Below.alloc ?_ (by first | omega | (simp; done) | (simp; omega) | exact Below.size (by assumption)) _ | refine Below.setCell ?_ (by first | omega | (simp; done) | (simp; omega)) _)))
    · by_cases c2 : left - x.fKind.size - x.fName.size - x.fText.size < 0
      · go_enter Tryz.func13, Tryz.ntmps13
        go_wp2
        go_ret
        exact SzB.neg (by (repeat (first | exact Below.refl _ _ | assumption | refine Below.drew ?_ | refine Below.alloc ?_ (by first | omega | (simp; done) | (simp; omega) | exact Below.size (by assumption)) _ | refine Below.setCell ?_ (by first | omega | (simp; done) | (simp; omega)) _)))
      · go_enter Tryz.func13, Tryz.ntmps13
        go_wp2
        go_ret
        exact SzB.ok (by (repeat (first | exact Below.refl _ _ | assumption | refine Below.drew ?_ | refine Below.alloc ?_ (by first | omega | (simp; done) | (simp; omega) | exact Below.size (by assumption)) _ | refine Below.setCell ?_ (by first | omega | (simp; done) | (simp; omega)) _))) (by omega) (by unfold DBlock.sz; omega)

theorem l_toBlock (x : DBlock) (w : World) :
    Calls Tryz.prog 16 #[.agg #[.string x.fKind, .string x.fName, .string x.fText]] w fun e w' => e = .returned (.agg #[.string x.fKind, .string x.fName, .string x.fText]) ∧ Below w.heap.size w w' := by
  go_enter Tryz.func16, Tryz.ntmps16
  go_wp2
  exact bodyPost_ret (v := .agg #[.string x.fKind, .string x.fName, .string x.fText]) (by simp [results, Tryz.results16, go_sem]) rfl ⟨rfl, by (repeat (first | exact Below.refl _ _ | assumption | refine Below.drew ?_ | refine Below.alloc ?_ (by first | omega | (simp; done) | (simp; omega) | exact Below.size (by assumption)) _ | refine Below.setCell ?_ (by first | omega | (simp; done) | (simp; omega)) _))⟩

set_option maxHeartbeats 400000 in
theorem l_eqBlock (x : DBlock) (w : World) :
    Calls Tryz.prog 21 #[.agg #[.string x.fKind, .string x.fName, .string x.fText], .agg #[.string x.fKind, .string x.fName, .string x.fText]] w (RetB true w) := by
  go_enter Tryz.func21, Tryz.ntmps21
  go_wp2
  go_ret
  exact ⟨rfl, by (repeat (first | exact Below.refl _ _ | assumption | refine Below.drew ?_ | refine Below.alloc ?_ (by first | omega | (simp; done) | (simp; omega) | exact Below.size (by assumption)) _ | refine Below.setCell ?_ (by first | omega | (simp; done) | (simp; omega)) _))⟩

set_option maxHeartbeats 400000 in
theorem l_szBlockS (A : Option Addr) (n c : Nat) (l : List DBlock) (left : Int) (w : World) (hr : Rd blockE w A n l) (hn : n ≤ maxLen)
    (hs : ∀ x ∈ l, x.good) (h0 : 0 ≤ left) (h1 : left ≤ 1048576) :
    Calls Tryz.prog 4 #[.slice A n c, .int .i64 left] w (SzB left (sumBlock l + n) w) := by
  unfold maxLen at hn
  have Hl := Lib.hid hr.1
  have HS := Lib.hid hs; clear hs
  by_cases hlt : left - n < 0
  · go_enter Tryz.func4, Tryz.ntmps4
    go_wp2
    go_ret
    exact SzB.neg (by (repeat (first | exact Below.refl _ _ | assumption | refine Below.drew ?_ | refine Below.alloc ?_ (by first | omega | (simp; done) | (simp; omega) | exact Below.size (by assumption)) _ | refine Below.setCell ?_ (by first | omega | (simp; done) | (simp; omega)) _)))
  · go_enter Tryz.func4, Tryz.ntmps4
    go_wp2_with fail
    go_loopw [1, 5] (fun t i wr => ∃ (k : Nat) (a : Int), k ≤ n ∧ 0 ≤ a ∧ a ≤ 1048576 ∧ i = .int .i64 k ∧ t = .int .i64 a ∧ Hid (a = left - n - sumBlock l + sumBlock (l.drop k)) ∧ Below w.heap.size w wr) (fun _ i _ => n - (intOf i).toNat)
    case atStart => exact ⟨0, left - n, by omega, by omega, by omega, rfl, rfl, Lib.hid (by rw [List.drop_zero]; omega), by (repeat (first | exact Below.refl _ _ | assumption | refine Below.drew ?_ | refine Below.alloc ?_ (by first | omega | (simp; done) | (simp; omega) | exact Below.size (by assumption)) _ | refine Below.setCell ?_ (by first | omega | (simp; done) | (simp; omega)) _))⟩
    case round =>
      obtain ⟨k, a, hk, ha0, ha1, rfl, rfl, HH, hb⟩ := hrel
      by_cases hkn : k < n
      · obtain ⟨b, off, x, rfl, hks, hc⟩ := hr.get hkn
        have hc0 := range_below (B := 0) hc hb 0 _ rfl
        have hc1 := range_below (B := 0) hc hb 1 _ rfl
        have hc2 := range_below (B := 0) hc hb 2 _ rfl
        simp only [blockE, Nat.add_zero] at hc0 hc1 hc2
        have hx := Lib.hid (HS.out x (mem_of_get hks))
        have HD := Lib.hid (drop_of_get hks); clear hks hc
        go_wp2_with fail
        refine (l_szBlock x a _ hx.out ha0 ha1).mono ?_
        rintro e w1 ⟨r, rfl, hb1, hr0, hr1⟩
        by_cases hneg : r < 0
        · obtain rfl : r = -1 := by omega
          clear hr1
          go_wp2
          go_ret
          exact SzB.neg (hb.trans (hb1.mono hb.size))
        · have h2 := hr1 (by omega)
          have h3 := x.sz_nonneg
          have H2 := Lib.hid h2
          have h4 : r ≤ 1048576 := by omega
          clear h2 h3 hr1
          go_wp2
          first | (refine ⟨⟨k + 1, r, by omega, by omega, by omega, by go_num, by go_num, Lib.hid (by have h5 := HH.out; rw [HD.out, sumBlock] at h5; have := H2.out; omega), hb.trans (hb1.mono hb.size)⟩, ?_⟩; (simp [intOf]; omega)) | (go_roundw; (case rel => first | exact ⟨k + 1, r, by omega, by omega, by omega, by go_num, by go_num, Lib.hid (by have h5 := HH.out; rw [HD.out, sumBlock] at h5; have := H2.out; omega), hb.trans (hb1.mono hb.size)⟩ | ((try refine ⟨trivial, ?_⟩); (repeat apply Exists.intro); exact ⟨⟨k + 1, r, by omega, by omega, by omega, by go_num, by go_num, Lib.hid (by have h5 := HH.out; rw [HD.out, sumBlock] at h5; have := H2.out; omega), hb.trans (hb1.mono hb.size)⟩, rfl⟩)); (case measure => (simp [intOf]; omega)))
      · go_wp2
        go_ret
        have hh := HH.out
        rw [List.drop_of_length_le (by have := Hl.out; omega), sumBlock] at hh
        exact SzB.ok hb ha0 (by omega)

theorem Tryz.info_Block : (Tryz.prog.info? 38).map (fun i => (i.zero, i.size, i.bytes)) = some (some (.agg #[.string ⟨#[]⟩, .string ⟨#[]⟩, .string ⟨#[]⟩]), 3, 48) := by kernel_rfl
set_option maxHeartbeats 400000 in
theorem l_toBlockS (A : Option Addr) (n c : Nat) (l : List DBlock) (w : World) (hr : Rd blockE w A n l) (hn : n ≤ 1048576) :
    Calls Tryz.prog 6 #[.slice A n c] w (RetOwn blockE 38 l n w) := by
  have Hl := Lib.hid hr.1
  obtain ⟨i0, hi, hz0, hz1, hz2⟩ := info_parts Tryz.info_Block
  have hmk := fun W => run_make_rows (P := Tryz.prog) 27 38 i0 _ Tryz.underlying27 hi hz0 hz1 .i64 .i64 n (by rw [hz2]; omega) (by omega) W
  clear hi hz0 hz1 hz2
  go_enter Tryz.func6, Tryz.ntmps6
  go_wp2_with fail
  clear hmk
  go_loopw [4] (fun i wr => ∃ k : Nat, k ≤ n ∧ i = .int .i64 k ∧ Part blockE 38 w.heap.size w.heap.size n l k wr ∧ Below w.heap.size w wr) (fun i _ => n - (intOf i).toNat)
  case atStart => exact ⟨0, Nat.zero_le _, rfl, Part.made (E := blockE) (z := #[.string ⟨#[]⟩, .string ⟨#[]⟩, .string ⟨#[]⟩]) (x := ⟨⟨#[]⟩, ⟨#[]⟩, ⟨#[]⟩⟩) rfl (Nat.le_refl _) (by unfold maxLen; omega), by (repeat (first | exact Below.refl _ _ | assumption | refine Below.drew ?_ | refine Below.alloc ?_ (by first | omega | (simp; done) | (simp; omega) | exact Below.size (by assumption)) _ | refine Below.setCell ?_ (by first | omega | (simp; done) | (simp; omega)) _))⟩
  case round =>
    obtain ⟨k, hk, rfl, hp, hb⟩ := hrel
    by_cases hkn : k < n
    · obtain ⟨b, off, x, rfl, hks, hc⟩ := hr.get hkn
      have hc0 := range_below (B := 0) hc hb 0 _ rfl
      have hc1 := range_below (B := 0) hc hb 1 _ rfl
      have hc2 := range_below (B := 0) hc hb 2 _ rfl
      simp only [blockE, Nat.add_zero] at hc0 hc1 hc2
      have HK := Lib.hid hks; clear hks hc
      go_wp2_with fail
      refine (l_toBlock x _).mono ?_
      rintro e w1 ⟨rfl, hb1⟩
      have hp1 := hp.below hb1
      obtain ⟨u0, hu0⟩ := hp1.cell (j := k * 3) (by simp only [blockE]; omega)
      have hf0 := hp1.free (k * 3)
      obtain ⟨u1, hu1⟩ := hp1.cell (j := k * 3 + 1) (by simp only [blockE]; omega)
      have hf1 := hp1.free (k * 3 + 1)
      obtain ⟨u2, hu2⟩ := hp1.cell (j := k * 3 + 2) (by simp only [blockE]; omega)
      have hf2 := hp1.free (k * 3 + 2)
      have HP := Lib.hid (hp1.sets HK.out hkn)
      have hb2 := below_setCells (Nat.le_refl w.heap.size) (blockE.cells x) (k * 3) (hb.trans (hb1.mono hb.size))
      clear hc0 hc1 hc2
      go_wp2
      first | (refine ⟨⟨k + 1, by omega, by go_num, HP.out, hb2⟩, ?_⟩; (simp [intOf]; omega)) | (go_roundw; (case rel => first | exact ⟨k + 1, by omega, by go_num, HP.out, hb2⟩ | ((try refine ⟨trivial, ?_⟩); (repeat apply Exists.intro); exact ⟨⟨k + 1, by omega, by go_num, HP.out, hb2⟩, rfl⟩)); (case measure => (simp [intOf]; omega)))
    · go_wp2
      go_ret
      exact ⟨_, _, rfl, Hl.out, hp.done Hl.out (by omega), hb⟩

set_option maxHeartbeats 400000 in
theorem l_eqBlockS (A A' : Option Addr) (n c c' : Nat) (l : List DBlock) (w : World) (hr : Rd blockE w A n l) (hr' : Rd blockE w A' n l) (hn : n ≤ maxLen) :
    Calls Tryz.prog 9 #[.slice A n c, .slice A' n c'] w (RetB true w) := by
  unfold maxLen at hn
  go_enter Tryz.func9, Tryz.ntmps9
  go_wp2
  go_loopw [5] (fun i wr => ∃ k : Nat, k ≤ n ∧ i = .int .i64 k ∧ Below w.heap.size w wr) (fun i _ => n - (intOf i).toNat)
  case atStart => exact ⟨0, Nat.zero_le _, rfl, by (repeat (first | exact Below.refl _ _ | assumption | refine Below.drew ?_ | refine Below.alloc ?_ (by first | omega | (simp; done) | (simp; omega) | exact Below.size (by assumption)) _ | refine Below.setCell ?_ (by first | omega | (simp; done) | (simp; omega)) _))⟩
  case round =>
    obtain ⟨k, hk, rfl, hb⟩ := hrel
    by_cases hkn : k < n
    · obtain ⟨b, off, x, rfl, hks, hc⟩ := hr.get hkn
      obtain ⟨b', off', x', rfl, hks', hc'⟩ := hr'.get hkn
      obtain rfl : x = x' := Option.some.inj (hks.symm.trans hks')
      have hc0 := range_below (B := 0) hc hb 0 _ rfl
      have hc1 := range_below (B := 0) hc hb 1 _ rfl
      have hc2 := range_below (B := 0) hc hb 2 _ rfl
      simp only [blockE, Nat.add_zero] at hc0 hc1 hc2
      have hd0 := range_below (B := 0) hc' hb 0 _ rfl
      have hd1 := range_below (B := 0) hc' hb 1 _ rfl
      have hd2 := range_below (B := 0) hc' hb 2 _ rfl
      simp only [blockE, Nat.add_zero] at hd0 hd1 hd2
      clear hc hc' hks hks'
      go_wp2_with fail
      go_still_tail 8, (by kernel_rfl)
      change wpList _ _ _ _ _ wr.drew
      go_wp2_with fail
      refine (l_eqBlock x _).mono ?_
      rintro e w1 ⟨rfl, hb1⟩
      have hb2 := hb.drew.trans (hb1.mono hb.size)
      go_wp2
      first | (refine ⟨⟨k + 1, by omega, by go_num, hb2⟩, ?_⟩; (simp [intOf]; omega)) | (go_roundw; (case rel => first | exact ⟨k + 1, by omega, by go_num, hb2⟩ | ((try refine ⟨trivial, ?_⟩); (repeat apply Exists.intro); exact ⟨⟨k + 1, by omega, by go_num, hb2⟩, rfl⟩)); (case measure => (simp [intOf]; omega)))
    · go_wp2
      go_ret
      exact ⟨rfl, hb⟩

def mark1Block (m : Nat) : DBlock := ⟨mt (m + 0), mt (m + 1), mt (m + 2)⟩
def markLBlock (n k : Nat) : List DBlock := (List.range n).map fun i => mark1Block (k + 3 * i)
theorem markLBlock_get (n k i : Nat) (h : i < n) : (markLBlock n k)[i]? = some (mark1Block (k + 3 * i)) := by simp [markLBlock, h]
theorem markLBlock_len (n k : Nat) : (markLBlock n k).length = n := by simp [markLBlock]

set_option maxHeartbeats 1000000 in
theorem l_markBlockS (F : Nat → Prop) (A : Option Addr) (n c : Nat) (l : List DBlock) (k0 : Int) (w : World) (hO : OL blockE 38 F w A n c l) (hn : n ≤ 34359738368) (h0 : 0 ≤ k0) (h1 : k0 ≤ 549755813888) :
    Calls Tryz.prog 10 #[.slice A n c, .int .i64 k0] w (MarkR blockE 38 F A n c (markLBlock n k0.toNat) (k0 + 3 * n) w) := by
  obtain ⟨m, rfl⟩ := Int.eq_ofNat_of_zero_le h0
  rw [Int.toNat_natCast]
  have HM := Lib.hid (markLBlock_len n m)
  go_enter Tryz.func10, Tryz.ntmps10
  go_wp2_with fail
  go_loopw [1, 5] (fun t i wr => ∃ k : Nat, k ≤ n ∧ i = .int .i64 k ∧ t = .int .i64 (m + 3 * k) ∧ PartV blockE 38 0 A n c (markLBlock n m) k wr ∧ Touch F w wr) (fun _ i _ => n - (intOf i).toNat)
  case atStart => exact ⟨0, Nat.zero_le _, rfl, by go_num, PartV.start hO.1 hO.2.1, Touch.refl F w⟩
  case round =>
    obtain ⟨k, hk, rfl, rfl, hp, ht⟩ := hrel
    by_cases hkn : k < n
    · obtain ⟨g, rfl⟩ := hp.form (by omega)
      have hFg := hO.2.2 g rfl
      have HK := Lib.hid (markLBlock_get n m k hkn)
      obtain ⟨zs, hz, htk, ho⟩ := hp
      have Hz := Lib.hid hz
      have Htk := Lib.hid htk
      clear hz htk
      simp only [blockE] at ho
      go_wp2_with fail
      refine (l_markText_at _ _ (by omega) (by omega)).mono ?_
      rintro e w1 ⟨T0, rfl, HT0, hb0⟩
      replace ht := ht.trans (Touch.of_below hb0)
      replace ho := own_below ho hb0
      obtain ⟨u0, hu0⟩ := own_cell ho (j := k * 3) (by omega)
      have hf0 := ho.frozenAt (k * 3)
      replace ho := (ho.stored (k * 3) (.string T0)).1
      replace ht := ht.trans (Touch.setCell (p := ⟨g, k * 3, none⟩) hFg (.string T0))
      go_wp2_with fail
      refine (l_markText_at _ _ (by omega) (by omega)).mono ?_
      rintro e w2 ⟨T1, rfl, HT1, hb1⟩
      replace ht := ht.trans (Touch.of_below hb1)
      replace ho := own_below ho hb1
      obtain ⟨u1, hu1⟩ := own_cell ho (j := k * 3 + 1) (by omega)
      have hf1 := ho.frozenAt (k * 3 + 1)
      replace ho := (ho.stored (k * 3 + 1) (.string T1)).1
      replace ht := ht.trans (Touch.setCell (p := ⟨g, k * 3 + 1, none⟩) hFg (.string T1))
      go_wp2_with fail
      refine (l_markText_at _ _ (by omega) (by omega)).mono ?_
      rintro e w3 ⟨T2, rfl, HT2, hb2⟩
      replace ht := ht.trans (Touch.of_below hb2)
      replace ho := own_below ho hb2
      obtain ⟨u2, hu2⟩ := own_cell ho (j := k * 3 + 2) (by omega)
      have hf2 := ho.frozenAt (k * 3 + 2)
      replace ho := (ho.stored (k * 3 + 2) (.string T2)).1
      replace ht := ht.trans (Touch.setCell (p := ⟨g, k * 3 + 2, none⟩) hFg (.string T2))
      have HC : Hid ([.string T0, .string T1, .string T2] = blockE.cells (mark1Block (m + 3 * k))) := Lib.hid (by
        rw [show T0 = mt (m + 3 * k + 0) from HT0.out.trans (congrArg mt (by omega))]
        rw [show T1 = mt (m + 3 * k + 1) from HT1.out.trans (congrArg mt (by omega))]
        rw [show T2 = mt (m + 3 * k + 2) from HT2.out.trans (congrArg mt (by omega))]
        rfl)
      have HP := Lib.hid (PartV.of_sets (E := blockE) Hz.out Htk.out HK.out hkn (by rw [← HC.out]; exact ho))
      go_wp2
      first | (refine ⟨⟨k + 1, by omega, by go_num, by go_num, HP.out, ht⟩, ?_⟩; (simp [intOf]; omega)) | (go_roundw; (case rel => first | exact ⟨k + 1, by omega, by go_num, by go_num, HP.out, ht⟩ | ((try refine ⟨trivial, ?_⟩); (repeat apply Exists.intro); exact ⟨⟨k + 1, by omega, by go_num, by go_num, HP.out, ht⟩, rfl⟩)); (case measure => (simp [intOf]; omega)))
    · go_wp2
      go_ret
      obtain rfl : k = n := by omega
      exact ⟨by go_num, ⟨hp.done HM.out (Nat.le_refl _), HM.out, hO.2.2⟩, ht⟩

end Go.Proofs.YtndbppplkfpgnaaGreatDoor


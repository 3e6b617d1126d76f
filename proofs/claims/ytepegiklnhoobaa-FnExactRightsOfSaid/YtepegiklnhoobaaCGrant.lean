/- Grant: how one lies, and the law files' helpers on it. -/
import Derived.Test.YtepegiklnhoobaaRows
import Derived.Test.YtepegiklnhoobaaMem
import Derived.Test.YtepegiklnhoobaaLaw
import Derived.Test.YtepegiklnhoobaaConvS
import Derived.Test.YtepegiklnhoobaaMarks
import Derived.StillTailTactics
import Derived.Laws.StructEq
namespace Go.Proofs.Ytepegiklnhoobaa
set_option linter.unusedVariables false
set_option linter.unusedSimpArgs false
set_option linter.unusedSectionVars false
open Go.RowKit

structure DGrant where
  fRole : ByteArray
  fObject : ByteArray
  fAction : Int
def grantE : Enc DGrant := ⟨3, fun x => [.string x.fRole, .string x.fObject, .int .i64 x.fAction], fun _ => rfl, by decide, fun _ u h => by simp at h; rcases h with rfl | rfl | rfl <;> rfl⟩
def DGrant.val (x : DGrant) : Value := .agg #[.string x.fRole, .string x.fObject, .int .i64 x.fAction]
def DGrant.good (x : DGrant) : Prop := x.fRole.size ≤ maxLen ∧ x.fObject.size ≤ maxLen ∧ (-9223372036854775808 ≤ x.fAction ∧ x.fAction ≤ 9223372036854775807)
def DGrant.sz (x : DGrant) : Int := x.fRole.size + x.fObject.size
def sumGrant : List DGrant → Int
  | [] => 0
  | x :: r => x.sz + sumGrant r
theorem DGrant.sz_nonneg (x : DGrant) : 0 ≤ x.sz := by unfold DGrant.sz; omega
theorem sumGrant_nonneg (l : List DGrant) : 0 ≤ sumGrant l := by
  induction l with
  | nil => simp [sumGrant]
  | cons s r ih => have := s.sz_nonneg; simp only [sumGrant]; omega
theorem sumGrant_mem {l : List DGrant} {x : DGrant} (h : x ∈ l) : x.sz ≤ sumGrant l := by
  induction l with
  | nil => cases h
  | cons y r ih =>
    have h0 := sumGrant_nonneg r
    have h1 := y.sz_nonneg
    simp only [sumGrant]
    cases List.mem_cons.1 h with
    | inl e => subst e; omega
    | inr e => have := ih e; omega


/-- whether two are the same, field by field -/
def DGrant.eqv (x y : DGrant) : Bool := (x.fRole.toList == y.fRole.toList) && ((x.fObject.toList == y.fObject.toList) && (x.fAction == y.fAction))
theorem DGrant.eqv_iff (x y : DGrant) : x.eqv y = true ↔ x = y := by
  constructor
  · intro h
    simp only [DGrant.eqv, Bool.and_eq_true, beq_iff_eq] at h
    obtain ⟨e0, e1, e2⟩ := h
    cases x; cases y
    simp only [DGrant.mk.injEq]
    exact ⟨ba_ext (by simpa [ByteArray.toList_eq] using e0), ba_ext (by simpa [ByteArray.toList_eq] using e1), e2⟩
  · rintro rfl
    simp [DGrant.eqv]

set_option maxRecDepth 100000 in
theorem run_eql_Grant (x y : DGrant) (w : World) : (binOp .eql 50 (.agg #[.string x.fRole, .string x.fObject, .int .i64 x.fAction]) (.agg #[.string y.fRole, .string y.fObject, .int .i64 y.fAction])).run Try.prog w = .ok (.bool (x.eqv y)) w := by
  have hS : Try.prog.underlying 50 = some (.struct (Try.prog.fieldsOf 50)) := by kernel_rfl
  have hp : Try.prog.stoodInHeld 50 = false := by kernel_rfl
  rw [run_eql_struct, show (10000 : Nat) = 9999 + 1 from rfl, run_equalIn_agg w 9999 50 _ _ hS hp]
  simp only [Program.fieldsOf, Try.underlying50]
  go_simp
  unfold DGrant.eqv
  rcases h0 : (x.fRole.toList == y.fRole.toList) with _ | _ <;> rcases h1 : (x.fObject.toList == y.fObject.toList) with _ | _ <;> rcases h2 : (x.fAction == y.fAction) with _ | _ <;> simp_all
set_option maxRecDepth 100000 in
theorem run_neq_Grant (x y : DGrant) (w : World) : (binOp .neq 50 (.agg #[.string x.fRole, .string x.fObject, .int .i64 x.fAction]) (.agg #[.string y.fRole, .string y.fObject, .int .i64 y.fAction])).run Try.prog w = .ok (.bool (!x.eqv y)) w := by
  have hS : Try.prog.underlying 50 = some (.struct (Try.prog.fieldsOf 50)) := by kernel_rfl
  have hp : Try.prog.stoodInHeld 50 = false := by kernel_rfl
  rw [run_neq_struct, show (10000 : Nat) = 9999 + 1 from rfl, run_equalIn_agg w 9999 50 _ _ hS hp]
  simp only [Program.fieldsOf, Try.underlying50]
  go_simp
  unfold DGrant.eqv
  rcases h0 : (x.fRole.toList == y.fRole.toList) with _ | _ <;> rcases h1 : (x.fObject.toList == y.fObject.toList) with _ | _ <;> rcases h2 : (x.fAction == y.fAction) with _ | _ <;> simp_all

set_option maxRecDepth 100000 in
theorem el_Grant {H : Type} {enc : TypeId × Value → H} {w : World} {base : Nat} {spare : Nat → Bool} {held : Bool} (n : Nat) (cs : List Value) (y : DataW H × List MemPlace) (h : DataW.trod enc Try.prog w base spare held n 46 cs = some y) : ∃ x, cs = grantE.cells x ∧ x.good := by
  obtain ⟨xs, m, _, _, hlen, _, hf⟩ := DataW.trod_struct Try.underlying46 h
  have hlen' : cs.length = 3 := hlen.trans (by kernel_rfl)
  have g0 := hf 0 _ rfl
  have g1 := hf 1 _ rfl
  have g2 := hf 2 _ rfl
  match cs, hlen' with
  | [c0, c1, c2], _ =>
    have e0 : (([c0, c1, c2].drop 0).take (Try.prog.cellsOf 9)) = [c0] := by rw [show Try.prog.cellsOf 9 = 1 by kernel_rfl]; rfl
    obtain ⟨y0, hy0⟩ : ∃ y, DataW.trod enc Try.prog w base spare held m 9 [c0] = some y := by rw [← e0]; exact ⟨_, g0.trans (List.getElem?_eq_getElem (by simp_all))⟩
    obtain ⟨x0, hx0, _, hz0⟩ := DataW.trod_string Try.underlying9 hy0
    have e1 : (([c0, c1, c2].drop 1).take (Try.prog.cellsOf 9)) = [c1] := by rw [show Try.prog.cellsOf 9 = 1 by kernel_rfl]; rfl
    obtain ⟨y1, hy1⟩ : ∃ y, DataW.trod enc Try.prog w base spare held m 9 [c1] = some y := by rw [← e1]; exact ⟨_, g1.trans (List.getElem?_eq_getElem (by simp_all))⟩
    obtain ⟨x1, hx1, _, hz1⟩ := DataW.trod_string Try.underlying9 hy1
    have e2 : (([c0, c1, c2].drop 2).take (Try.prog.cellsOf 2)) = [c2] := by rw [show Try.prog.cellsOf 2 = 1 by kernel_rfl]; rfl
    obtain ⟨y2, hy2⟩ : ∃ y, DataW.trod enc Try.prog w base spare held m 2 [c2] = some y := by rw [← e2]; exact ⟨_, g2.trans (List.getElem?_eq_getElem (by simp_all))⟩
    obtain ⟨x2, hx2, _, hz2⟩ := DataW.trod_int Try.underlying2 hy2
    refine ⟨⟨x0, x1, x2⟩, ?_, hz0, hz1, wf64 hz2⟩
    simp only [List.cons.injEq, and_true] at hx0 hx1 hx2
    subst hx0 hx1 hx2
    rfl

set_option maxRecDepth 100000 in
theorem open_Grant {H : Type} {enc : TypeId × Value → H} {w : World} {base : Nat} {spare : Nat → Bool} {held : Bool} {r : Reach} {b0 : Nat} {v : Value} {d : DataW H} {p : List MemPlace} (hv : Value.okWide Try.prog w r b0 46 v)
    (h : DataW.Trod enc Try.prog w base spare held 46 v d p) : ∃ x : DGrant, v = .agg #[.string x.fRole, .string x.fObject, .int .i64 x.fAction] ∧ x.good := by
  obtain ⟨cs, rfl, hsz⟩ := WideShapes.okWide_struct Try.underlying46 hv
  obtain ⟨fuel, hf⟩ := h
  obtain ⟨x, hx, hg⟩ := el_Grant fuel _ _ hf
  refine ⟨x, ?_, hg⟩
  congr 1
  apply Array.toList_inj.1
  exact hx

set_option maxHeartbeats 400000 in
set_option maxRecDepth 100000 in
theorem l_szGrant (x : DGrant) (left : Int) (w : World) (hg : x.good) (h0 : 0 ≤ left) (h1 : left ≤ 1048576) :
    Calls Try.prog 32 #[.agg #[.string x.fRole, .string x.fObject, .int .i64 x.fAction], .int .i64 left] w (SzB left x.sz w) := by
  obtain ⟨g0, g1, g2⟩ := hg
  unfold maxLen at g0 g1
  clear g2
  by_cases c0 : left - x.fRole.size < 0
  · go_enter Try.func32, Try.ntmps32
    go_wp2
    go_ret
    exact SzB.neg (by (repeat (first | exact Below.refl _ _ | assumption | refine Below.drew ?_ | refine Below.alloc ?_ (by first | omega | (simp; done) | (simp; omega) | exact Below.size (by assumption)) _ | refine Below.setCell ?_ (by first | omega | (simp; done) | (simp; omega)) _)))
  · by_cases c1 : left - x.fRole.size - x.fObject.size < 0
    · go_enter Try.func32, Try.ntmps32
      go_wp2
      go_ret
      exact SzB.neg (by (repeat (first | exact Below.refl _ _ | assumption | refine Below.drew ?_ | refine Below.alloc ?_ (by first | omega | (simp; done) | (simp; omega) | exact Below.size (by assumption)) _ | refine Below.setCell ?_ (by first | omega | (simp; done) | (simp; omega)) _)))
    · go_enter Try.func32, Try.ntmps32
      go_wp2
      go_ret
      exact SzB.ok (by (repeat (first | exact Below.refl _ _ | assumption | refine Below.drew ?_ | refine Below.alloc ?_ (by first | omega | (simp; done) | (simp; omega) | exact Below.size (by assumption)) _ | refine Below.setCell ?_ (by first | omega | (simp; done) | (simp; omega)) _))) (by omega) (by unfold DGrant.sz; omega)

set_option maxRecDepth 100000 in
theorem l_toGrant (x : DGrant) (w : World) :
    Calls Try.prog 34 #[.agg #[.string x.fRole, .string x.fObject, .int .i64 x.fAction]] w fun e w' => e = .returned (.agg #[.string x.fRole, .string x.fObject, .int .i64 x.fAction]) ∧ Below w.heap.size w w' := by
  go_enter Try.func34, Try.ntmps34
  go_wp2
  exact bodyPost_ret (v := .agg #[.string x.fRole, .string x.fObject, .int .i64 x.fAction]) (by simp [results, Try.results34, go_sem]) rfl ⟨rfl, by (repeat (first | exact Below.refl _ _ | assumption | refine Below.drew ?_ | refine Below.alloc ?_ (by first | omega | (simp; done) | (simp; omega) | exact Below.size (by assumption)) _ | refine Below.setCell ?_ (by first | omega | (simp; done) | (simp; omega)) _))⟩

set_option maxHeartbeats 400000 in
set_option maxRecDepth 100000 in
theorem l_eqGrant (x : DGrant) (w : World) :
    Calls Try.prog 68 #[.agg #[.string x.fRole, .string x.fObject, .int .i64 x.fAction], .agg #[.string x.fRole, .string x.fObject, .int .i64 x.fAction]] w (RetB true w) := by
  go_enter Try.func68, Try.ntmps68
  go_wp2
  go_ret
  exact ⟨rfl, by (repeat (first | exact Below.refl _ _ | assumption | refine Below.drew ?_ | refine Below.alloc ?_ (by first | omega | (simp; done) | (simp; omega) | exact Below.size (by assumption)) _ | refine Below.setCell ?_ (by first | omega | (simp; done) | (simp; omega)) _))⟩

set_option maxHeartbeats 400000 in
set_option maxRecDepth 100000 in
theorem l_szGrantS (A : Option Addr) (n c : Nat) (l : List DGrant) (left : Int) (w : World) (hr : Rd grantE w A n l) (hn : n ≤ maxLen)
    (hs : ∀ x ∈ l, x.good) (h0 : 0 ≤ left) (h1 : left ≤ 1048576) :
    Calls Try.prog 25 #[.slice A n c, .int .i64 left] w (SzB left (sumGrant l + n) w) := by
  unfold maxLen at hn
  have Hl := Lib.hid hr.1
  have HS := Lib.hid hs; clear hs
  by_cases hlt : left - n < 0
  · go_enter Try.func25, Try.ntmps25
    go_wp2
    go_ret
    exact SzB.neg (by (repeat (first | exact Below.refl _ _ | assumption | refine Below.drew ?_ | refine Below.alloc ?_ (by first | omega | (simp; done) | (simp; omega) | exact Below.size (by assumption)) _ | refine Below.setCell ?_ (by first | omega | (simp; done) | (simp; omega)) _)))
  · go_enter Try.func25, Try.ntmps25
    go_wp2_with fail
    go_loopw [1, 5] (fun t i wr => ∃ (k : Nat) (a : Int), k ≤ n ∧ 0 ≤ a ∧ a ≤ 1048576 ∧ i = .int .i64 k ∧ t = .int .i64 a ∧ Hid (a = left - n - sumGrant l + sumGrant (l.drop k)) ∧ Below w.heap.size w wr) (fun _ i _ => n - (intOf i).toNat)
    case atStart => exact ⟨0, left - n, by omega, by omega, by omega, rfl, rfl, Lib.hid (by rw [List.drop_zero]; omega), by (repeat (first | exact Below.refl _ _ | assumption | refine Below.drew ?_ | refine Below.alloc ?_ (by first | omega | (simp; done) | (simp; omega) | exact Below.size (by assumption)) _ | refine Below.setCell ?_ (by first | omega | (simp; done) | (simp; omega)) _))⟩
    case round =>
      obtain ⟨k, a, hk, ha0, ha1, rfl, rfl, HH, hb⟩ := hrel
      by_cases hkn : k < n
      · obtain ⟨b, off, x, rfl, hks, hc⟩ := hr.get hkn
        have hc0 := range_below (B := 0) hc hb 0 _ rfl
        have hc1 := range_below (B := 0) hc hb 1 _ rfl
        have hc2 := range_below (B := 0) hc hb 2 _ rfl
        simp only [grantE, Nat.add_zero] at hc0 hc1 hc2
        have hx := Lib.hid (HS.out x (mem_of_get hks))
        have HD := Lib.hid (drop_of_get hks); clear hks hc
        go_wp2_with fail
        refine (l_szGrant x a _ hx.out ha0 ha1).mono ?_
        rintro e w1 ⟨r, rfl, hb1, hr0, hr1⟩
        by_cases hneg : r < 0
        · obtain rfl : r = -1 := by omega
          clear hr1
          go_wp2
          go_ret
          exact SzB.neg (hb.trans (hb1.mono hb.size))
        · have h2 := hr1 (by omega)
          have h3 := x.sz_nonneg
          have H2 := Lib.hid h2
          have h4 : r ≤ 1048576 := by omega
          clear h2 h3 hr1
          go_wp2
          first | (refine ⟨⟨k + 1, r, by omega, by omega, by omega, by go_num, by go_num, Lib.hid (by have h5 := HH.out; rw [HD.out, sumGrant] at h5; have := H2.out; omega), hb.trans (hb1.mono hb.size)⟩, ?_⟩; (simp [intOf]; omega)) | (go_roundw; (case rel => first | exact ⟨k + 1, r, by omega, by omega, by omega, by go_num, by go_num, Lib.hid (by have h5 := HH.out; rw [HD.out, sumGrant] at h5; have := H2.out; omega), hb.trans (hb1.mono hb.size)⟩ | ((try refine ⟨trivial, ?_⟩); (repeat apply Exists.intro); exact ⟨⟨k + 1, r, by omega, by omega, by omega, by go_num, by go_num, Lib.hid (by have h5 := HH.out; rw [HD.out, sumGrant] at h5; have := H2.out; omega), hb.trans (hb1.mono hb.size)⟩, rfl⟩)); (case measure => (simp [intOf]; omega)))
      · go_wp2
        go_ret
        have hh := HH.out
        rw [List.drop_of_length_le (by have := Hl.out; omega), sumGrant] at hh
        exact SzB.ok hb ha0 (by omega)

theorem Try.info_Grant : (Try.prog.info? 50).map (fun i => (i.zero, i.size, i.bytes)) = some (some (.agg #[.string ⟨#[]⟩, .string ⟨#[]⟩, .int .i64 0]), 3, 40) := by kernel_rfl
set_option maxHeartbeats 400000 in
set_option maxRecDepth 100000 in
theorem l_toGrantS (A : Option Addr) (n c : Nat) (l : List DGrant) (w : World) (hr : Rd grantE w A n l) (hn : n ≤ 1048576) :
    Calls Try.prog 27 #[.slice A n c] w (RetOwn grantE 50 l n w) := by
  have Hl := Lib.hid hr.1
  obtain ⟨i0, hi, hz0, hz1, hz2⟩ := info_parts Try.info_Grant
  have hmk := fun W => run_make_rows (P := Try.prog) 39 50 i0 _ Try.underlying39 hi hz0 hz1 .i64 .i64 n (by rw [hz2]; omega) (by omega) W
  clear hi hz0 hz1 hz2
  go_enter Try.func27, Try.ntmps27
  go_wp2_with fail
  clear hmk
  go_loopw [4] (fun i wr => ∃ k : Nat, k ≤ n ∧ i = .int .i64 k ∧ Part grantE 50 w.heap.size w.heap.size n l k wr ∧ Below w.heap.size w wr) (fun i _ => n - (intOf i).toNat)
  case atStart => exact ⟨0, Nat.zero_le _, rfl, Part.made (E := grantE) (z := #[.string ⟨#[]⟩, .string ⟨#[]⟩, .int .i64 0]) (x := ⟨⟨#[]⟩, ⟨#[]⟩, 0⟩) rfl (Nat.le_refl _) (by unfold maxLen; omega), by (repeat (first | exact Below.refl _ _ | assumption | refine Below.drew ?_ | refine Below.alloc ?_ (by first | omega | (simp; done) | (simp; omega) | exact Below.size (by assumption)) _ | refine Below.setCell ?_ (by first | omega | (simp; done) | (simp; omega)) _))⟩
  case round =>
    obtain ⟨k, hk, rfl, hp, hb⟩ := hrel
    by_cases hkn : k < n
    · obtain ⟨b, off, x, rfl, hks, hc⟩ := hr.get hkn
      have hc0 := range_below (B := 0) hc hb 0 _ rfl
      have hc1 := range_below (B := 0) hc hb 1 _ rfl
      have hc2 := range_below (B := 0) hc hb 2 _ rfl
      simp only [grantE, Nat.add_zero] at hc0 hc1 hc2
      have HK := Lib.hid hks; clear hks hc
      go_wp2_with fail
      refine (l_toGrant x _).mono ?_
      rintro e w1 ⟨rfl, hb1⟩
      have hp1 := hp.below hb1
      obtain ⟨u0, hu0⟩ := hp1.cell (j := k * 3) (by simp only [grantE]; omega)
      have hf0 := hp1.free (k * 3)
      obtain ⟨u1, hu1⟩ := hp1.cell (j := k * 3 + 1) (by simp only [grantE]; omega)
      have hf1 := hp1.free (k * 3 + 1)
      obtain ⟨u2, hu2⟩ := hp1.cell (j := k * 3 + 2) (by simp only [grantE]; omega)
      have hf2 := hp1.free (k * 3 + 2)
      have HP := Lib.hid (hp1.sets HK.out hkn)
      have hb2 := below_setCells (Nat.le_refl w.heap.size) (grantE.cells x) (k * 3) (hb.trans (hb1.mono hb.size))
      clear hc0 hc1 hc2
      go_wp2
      first | (refine ⟨⟨k + 1, by omega, by go_num, HP.out, hb2⟩, ?_⟩; (simp [intOf]; omega)) | (go_roundw; (case rel => first | exact ⟨k + 1, by omega, by go_num, HP.out, hb2⟩ | ((try refine ⟨trivial, ?_⟩); (repeat apply Exists.intro); exact ⟨⟨k + 1, by omega, by go_num, HP.out, hb2⟩, rfl⟩)); (case measure => (simp [intOf]; omega)))
    · go_wp2
      go_ret
      exact ⟨_, _, rfl, Hl.out, hp.done Hl.out (by omega), hb⟩

set_option maxHeartbeats 400000 in
set_option maxRecDepth 100000 in
theorem l_eqGrantS (A A' : Option Addr) (n c c' : Nat) (l : List DGrant) (w : World) (hr : Rd grantE w A n l) (hr' : Rd grantE w A' n l) (hn : n ≤ maxLen) :
    Calls Try.prog 29 #[.slice A n c, .slice A' n c'] w (RetB true w) := by
  unfold maxLen at hn
  go_enter Try.func29, Try.ntmps29
  go_wp2
  go_loopw [5] (fun i wr => ∃ k : Nat, k ≤ n ∧ i = .int .i64 k ∧ Below w.heap.size w wr) (fun i _ => n - (intOf i).toNat)
  case atStart => exact ⟨0, Nat.zero_le _, rfl, by (repeat (first | exact Below.refl _ _ | assumption | refine Below.drew ?_ | refine Below.alloc ?_ (by first | omega | (simp; done) | (simp; omega) | exact Below.size (by assumption)) _ | refine Below.setCell ?_ (by first | omega | (simp; done) | (simp; omega)) _))⟩
  case round =>
    obtain ⟨k, hk, rfl, hb⟩ := hrel
    by_cases hkn : k < n
    · obtain ⟨b, off, x, rfl, hks, hc⟩ := hr.get hkn
      obtain ⟨b', off', x', rfl, hks', hc'⟩ := hr'.get hkn
      obtain rfl : x = x' := Option.some.inj (hks.symm.trans hks')
      have hc0 := range_below (B := 0) hc hb 0 _ rfl
      have hc1 := range_below (B := 0) hc hb 1 _ rfl
      have hc2 := range_below (B := 0) hc hb 2 _ rfl
      simp only [grantE, Nat.add_zero] at hc0 hc1 hc2
      have hd0 := range_below (B := 0) hc' hb 0 _ rfl
      have hd1 := range_below (B := 0) hc' hb 1 _ rfl
      have hd2 := range_below (B := 0) hc' hb 2 _ rfl
      simp only [grantE, Nat.add_zero] at hd0 hd1 hd2
      clear hc hc' hks hks'
      go_wp2_with fail
      go_still_tail 8, (by kernel_rfl)
      change wpList _ _ _ _ _ wr.drew
      go_wp2_with fail
      refine (l_eqGrant x _).mono ?_
      rintro e w1 ⟨rfl, hb1⟩
      have hb2 := hb.drew.trans (hb1.mono hb.size)
      go_wp2
      first | (refine ⟨⟨k + 1, by omega, by go_num, hb2⟩, ?_⟩; (simp [intOf]; omega)) | (go_roundw; (case rel => first | exact ⟨k + 1, by omega, by go_num, hb2⟩ | ((try refine ⟨trivial, ?_⟩); (repeat apply Exists.intro); exact ⟨⟨k + 1, by omega, by go_num, hb2⟩, rfl⟩)); (case measure => (simp [intOf]; omega)))
    · go_wp2
      go_ret
      exact ⟨rfl, hb⟩

def mark1Grant (m : Nat) : DGrant := ⟨mt (m + 0), mt (m + 1), ((m + 2 : Nat) : Int)⟩
def markLGrant (n k : Nat) : List DGrant := (List.range n).map fun i => mark1Grant (k + 3 * i)
theorem markLGrant_get (n k i : Nat) (h : i < n) : (markLGrant n k)[i]? = some (mark1Grant (k + 3 * i)) := by simp [markLGrant, h]
theorem markLGrant_len (n k : Nat) : (markLGrant n k).length = n := by simp [markLGrant]

set_option maxHeartbeats 1000000 in
set_option maxRecDepth 100000 in
theorem l_markGrantS (F : Nat → Prop) (A : Option Addr) (n c : Nat) (l : List DGrant) (k0 : Int) (w : World) (hO : OL grantE 50 F w A n c l) (hn : n ≤ 34359738368) (h0 : 0 ≤ k0) (h1 : k0 ≤ 549755813888) :
    Calls Try.prog 36 #[.slice A n c, .int .i64 k0] w (MarkR grantE 50 F A n c (markLGrant n k0.toNat) (k0 + 3 * n) w) := by
  obtain ⟨m, rfl⟩ := Int.eq_ofNat_of_zero_le h0
  rw [Int.toNat_natCast]
  have HM := Lib.hid (markLGrant_len n m)
  go_enter Try.func36, Try.ntmps36
  go_wp2_with fail
  go_loopw [1, 5] (fun t i wr => ∃ k : Nat, k ≤ n ∧ i = .int .i64 k ∧ t = .int .i64 (m + 3 * k) ∧ PartV grantE 50 0 A n c (markLGrant n m) k wr ∧ Touch F w wr) (fun _ i _ => n - (intOf i).toNat)
  case atStart => exact ⟨0, Nat.zero_le _, rfl, by go_num, PartV.start hO.1 hO.2.1, Touch.refl F w⟩
  case round =>
    obtain ⟨k, hk, rfl, rfl, hp, ht⟩ := hrel
    by_cases hkn : k < n
    · obtain ⟨g, rfl⟩ := hp.form (by omega)
      have hFg := hO.2.2 g rfl
      have HK := Lib.hid (markLGrant_get n m k hkn)
      obtain ⟨zs, hz, htk, ho⟩ := hp
      have Hz := Lib.hid hz
      have Htk := Lib.hid htk
      clear hz htk
      simp only [grantE] at ho
      go_wp2_with fail
      refine (l_markText_at _ _ (by omega) (by omega)).mono ?_
      rintro e w1 ⟨T0, rfl, HT0, hb0⟩
      replace ht := ht.trans (Touch.of_below hb0)
      replace ho := own_below ho hb0
      obtain ⟨u0, hu0⟩ := own_cell ho (j := k * 3) (by omega)
      have hf0 := ho.frozenAt (k * 3)
      replace ho := (ho.stored (k * 3) (.string T0)).1
      replace ht := ht.trans (Touch.setCell (p := ⟨g, k * 3, none⟩) hFg (.string T0))
      go_wp2_with fail
      refine (l_markText_at _ _ (by omega) (by omega)).mono ?_
      rintro e w2 ⟨T1, rfl, HT1, hb1⟩
      replace ht := ht.trans (Touch.of_below hb1)
      replace ho := own_below ho hb1
      obtain ⟨u1, hu1⟩ := own_cell ho (j := k * 3 + 1) (by omega)
      have hf1 := ho.frozenAt (k * 3 + 1)
      replace ho := (ho.stored (k * 3 + 1) (.string T1)).1
      replace ht := ht.trans (Touch.setCell (p := ⟨g, k * 3 + 1, none⟩) hFg (.string T1))
      obtain ⟨u2, hu2⟩ := own_cell ho (j := k * 3 + 2) (by omega)
      have hf2 := ho.frozenAt (k * 3 + 2)
      replace ho := (ho.stored (k * 3 + 2) (.int .i64 ((m : Int) + 3 * k + 1 + 1))).1
      replace ht := ht.trans (Touch.setCell (p := ⟨g, k * 3 + 2, none⟩) hFg (.int .i64 ((m : Int) + 3 * k + 1 + 1)))
      have HC : Hid ([.string T0, .string T1, .int .i64 ((m : Int) + 3 * k + 1 + 1)] = grantE.cells (mark1Grant (m + 3 * k))) := Lib.hid (by
        rw [show T0 = mt (m + 3 * k + 0) from HT0.out.trans (congrArg mt (by omega))]
        rw [show T1 = mt (m + 3 * k + 1) from HT1.out.trans (congrArg mt (by omega))]
        rw [show (m : Int) + 3 * k + 1 + 1 = ((m + 3 * k + 2 : Nat) : Int) from by omega]
        rfl)
      have HP := Lib.hid (PartV.of_sets (E := grantE) Hz.out Htk.out HK.out hkn (by rw [← HC.out]; exact ho))
      go_wp2
      first | (refine ⟨⟨k + 1, by omega, by go_num, by go_num, HP.out, ht⟩, ?_⟩; (simp [intOf]; omega)) | (go_roundw; (case rel => first | exact ⟨k + 1, by omega, by go_num, by go_num, HP.out, ht⟩ | ((try refine ⟨trivial, ?_⟩); (repeat apply Exists.intro); exact ⟨⟨k + 1, by omega, by go_num, by go_num, HP.out, ht⟩, rfl⟩)); (case measure => (simp [intOf]; omega)))
    · go_wp2
      go_ret
      obtain rfl : k = n := by omega
      exact ⟨by go_num, ⟨hp.done HM.out (Nat.le_refl _), HM.out, hO.2.2⟩, ht⟩

set_option maxHeartbeats 2000000 in
set_option maxRecDepth 100000 in
theorem l_heldGrantS (F : Nat → Prop) (A : Option Addr) (n c : Nat) (k0 : Int) (w : World) (hO : OL grantE 50 F w A n c (markLGrant n k0.toNat)) (hn : n ≤ 34359738368) (h0 : 0 ≤ k0) (h1 : k0 ≤ 549755813888) :
    Calls Try.prog 37 #[.slice A n c, .int .i64 k0] w (HeldR (k0 + 3 * n) w) := by
  obtain ⟨m, rfl⟩ := Int.eq_ofNat_of_zero_le h0
  rw [Int.toNat_natCast] at hO
  have hr := hO.rd
  go_enter Try.func37, Try.ntmps37
  go_wp2_with fail
  go_loopw [1, 5] (fun t i wr => ∃ k : Nat, k ≤ n ∧ i = .int .i64 k ∧ t = .int .i64 (m + 3 * k) ∧ Below w.heap.size w wr) (fun _ i _ => n - (intOf i).toNat)
  case atStart => exact ⟨0, Nat.zero_le _, rfl, by go_num, Below.refl _ _⟩
  case round =>
    obtain ⟨k, hk, rfl, rfl, hb⟩ := hrel
    by_cases hkn : k < n
    · obtain ⟨b, off, x, rfl, hks, hc⟩ := hr.get hkn
      obtain rfl : x = mark1Grant (m + 3 * k) := Option.some.inj (hks.symm.trans (markLGrant_get n m k hkn))
      clear hks
      have HC := Lib.hid hc; clear hc
      have hc0 := range_below (B := 0) HC.out hb 0 (.string (mt (m + 3 * k + 0))) rfl
      simp only [grantE, Nat.add_zero] at hc0
      have HM0 : Hid (∀ W, Calls Try.prog 64 #[.int .i64 ((m : Int) + 3 * k)] W fun e w' => e = .returned (.string (mt (m + 3 * k + 0))) ∧ Below W.heap.size W w') := Lib.hid (by
        intro W
        have := l_markText (m + 3 * k + 0) W (by omega)
        rw [show ((m + 3 * k + 0 : Nat) : Int) = (m : Int) + 3 * k from by omega] at this
        exact this)
      go_wp2_with fail
      go_region_held3 (fun w' => w'.cell? ⟨b, off + k * 3, none⟩ = some (.string (mt (m + 3 * k + 0))) ∧ Below w.heap.size w w') (first | exact ⟨hc0, hb.drew⟩ | (go_split_ands; exact ⟨cell_later hbm (by assumption), Below.trans (by assumption) (hbm.mono (Below.size (by assumption)))⟩) | (go_split_ands; exact ⟨by assumption, by assumption⟩))
        (first | (go_at_call 64; refine (HM0.out _).mono ?_; rintro e w0 ⟨rfl, hbm⟩))
      rename_i hh
      obtain ⟨_, hb0⟩ := hh
      clear hbm hc0
      have hc1 := range_below (B := 0) HC.out hb0 1 (.string (mt (m + 3 * k + 1))) rfl
      simp only [grantE, Nat.add_zero] at hc1
      have HM1 : Hid (∀ W, Calls Try.prog 64 #[.int .i64 ((m : Int) + 3 * k + 1)] W fun e w' => e = .returned (.string (mt (m + 3 * k + 1))) ∧ Below W.heap.size W w') := Lib.hid (by
        intro W
        have := l_markText (m + 3 * k + 1) W (by omega)
        rw [show ((m + 3 * k + 1 : Nat) : Int) = (m : Int) + 3 * k + 1 from by omega] at this
        exact this)
      go_wp2_with fail
      go_region_held3 (fun w' => w'.cell? ⟨b, off + k * 3 + 1, none⟩ = some (.string (mt (m + 3 * k + 1))) ∧ Below w.heap.size w w') (first | exact ⟨hc1, hb0.drew⟩ | (go_split_ands; exact ⟨cell_later hbm (by assumption), Below.trans (by assumption) (hbm.mono (Below.size (by assumption)))⟩) | (go_split_ands; exact ⟨by assumption, by assumption⟩))
        (first | (go_at_call 64; refine (HM1.out _).mono ?_; rintro e w1 ⟨rfl, hbm⟩))
      rename_i hh
      obtain ⟨_, hb1⟩ := hh
      clear hbm hc1
      have hc2 := range_below (B := 0) HC.out hb1 2 (.int .i64 ((m : Int) + 3 * k + 1 + 1)) (by rw [show (m : Int) + 3 * k + 1 + 1 = ((m + 3 * k + 2 : Nat) : Int) from by omega]; rfl)
      simp only [grantE, Nat.add_zero] at hc2
      go_wp2_with fail
      clear hc2
      go_wp2
      first | (refine ⟨⟨k + 1, by omega, by go_num, by go_num, hb1⟩, ?_⟩; (simp [intOf]; omega)) | (go_roundw; (case rel => first | exact ⟨k + 1, by omega, by go_num, by go_num, hb1⟩ | ((try refine ⟨trivial, ?_⟩); (repeat apply Exists.intro); exact ⟨⟨k + 1, by omega, by go_num, by go_num, hb1⟩, rfl⟩)); (case measure => (simp [intOf]; omega)))
    · go_wp2
      go_ret
      obtain rfl : k = n := by omega
      exact ⟨by go_num, hb⟩

end Go.Proofs.Ytepegiklnhoobaa


/- Setting: how one lies, and the law files' helpers on it. -/
import Derived.Test.YtfabijhilfjkcaaRows
import Derived.Test.YtfabijhilfjkcaaMem
import Derived.Test.YtfabijhilfjkcaaLaw
import Derived.Test.YtfabijhilfjkcaaConvS
import Derived.Test.YtfabijhilfjkcaaMarks
import Derived.Test.YtfabijhilfjkcaaSetLaw
import Derived.StillTailTactics
import Derived.Laws.StructEq
namespace Go.Proofs.Ytfabijhilfjkcaa
set_option linter.unusedVariables false
set_option linter.unusedSimpArgs false
set_option linter.unusedSectionVars false
open Go.RowKit
set_option maxRecDepth 100000

def settingE : Enc DSetting := ⟨2, fun x => [.string x.fName, .int .i64 x.fValue], fun _ => rfl, by decide, fun _ u h => by simp at h; rcases h with rfl | rfl <;> rfl⟩
def DSetting.val (x : DSetting) : Value := .agg #[.string x.fName, .int .i64 x.fValue]
def DSetting.good (x : DSetting) : Prop := x.fName.size ≤ maxLen ∧ (-9223372036854775808 ≤ x.fValue ∧ x.fValue ≤ 9223372036854775807)
def DSetting.sz (x : DSetting) : Int := x.fName.size
def sumSetting : List DSetting → Int
  | [] => 0
  | x :: r => x.sz + sumSetting r
theorem DSetting.sz_nonneg (x : DSetting) : 0 ≤ x.sz := by unfold DSetting.sz; omega
theorem sumSetting_nonneg (l : List DSetting) : 0 ≤ sumSetting l := by
  induction l with
  | nil => simp [sumSetting]
  | cons s r ih => have := s.sz_nonneg; simp only [sumSetting]; omega
theorem sumSetting_mem {l : List DSetting} {x : DSetting} (h : x ∈ l) : x.sz ≤ sumSetting l := by
  induction l with
  | nil => cases h
  | cons y r ih =>
    have h0 := sumSetting_nonneg r
    have h1 := y.sz_nonneg
    simp only [sumSetting]
    cases List.mem_cons.1 h with
    | inl e => subst e; omega
    | inr e => have := ih e; omega


/-- whether two are the same, field by field -/
def DSetting.eqv (x y : DSetting) : Bool := (x.fName.toList == y.fName.toList) && (x.fValue == y.fValue)
theorem DSetting.eqv_iff (x y : DSetting) : x.eqv y = true ↔ x = y := by
  constructor
  · intro h
    simp only [DSetting.eqv, Bool.and_eq_true, beq_iff_eq] at h
    obtain ⟨e0, e1⟩ := h
    cases x; cases y
    simp only [DSetting.mk.injEq]
    exact ⟨ba_ext (by simpa [ByteArray.toList_eq] using e0), e1⟩
  · rintro rfl
    simp [DSetting.eqv]

theorem run_eql_Setting (x y : DSetting) (w : World) : (binOp .eql 56 (.agg #[.string x.fName, .int .i64 x.fValue]) (.agg #[.string y.fName, .int .i64 y.fValue])).run Try.prog w = .ok (.bool (x.eqv y)) w := by
  have hS : Try.prog.underlying 56 = some (.struct (Try.prog.fieldsOf 56)) := by kernel_rfl
  have hp : Try.prog.stoodInHeld 56 = false := by kernel_rfl
  rw [run_eql_struct, show (10000 : Nat) = 9999 + 1 from rfl, run_equalIn_agg w 9999 56 _ _ hS hp]
  simp only [Program.fieldsOf, Try.underlying56]
  go_simp
  unfold DSetting.eqv
  rcases h0 : (x.fName.toList == y.fName.toList) with _ | _ <;> rcases h1 : (x.fValue == y.fValue) with _ | _ <;> simp_all
theorem run_neq_Setting (x y : DSetting) (w : World) : (binOp .neq 56 (.agg #[.string x.fName, .int .i64 x.fValue]) (.agg #[.string y.fName, .int .i64 y.fValue])).run Try.prog w = .ok (.bool (!x.eqv y)) w := by
  have hS : Try.prog.underlying 56 = some (.struct (Try.prog.fieldsOf 56)) := by kernel_rfl
  have hp : Try.prog.stoodInHeld 56 = false := by kernel_rfl
  rw [run_neq_struct, show (10000 : Nat) = 9999 + 1 from rfl, run_equalIn_agg w 9999 56 _ _ hS hp]
  simp only [Program.fieldsOf, Try.underlying56]
  go_simp
  unfold DSetting.eqv
  rcases h0 : (x.fName.toList == y.fName.toList) with _ | _ <;> rcases h1 : (x.fValue == y.fValue) with _ | _ <;> simp_all

theorem el_Setting {H : Type} {enc : TypeId × Value → H} {w : World} {base : Nat} {spare : Nat → Bool} {held : Bool} (n : Nat) (cs : List Value) (y : DataW H × List MemPlace) (h : DataW.trod enc Try.prog w base spare held n 71 cs = some y) : ∃ x, cs = settingE.cells x ∧ x.good := by
  obtain ⟨xs, m, _, _, hlen, _, hf⟩ := DataW.trod_struct Try.underlying71 h
  have hlen' : cs.length = 2 := hlen.trans (by kernel_rfl)
  have g0 := hf 0 _ rfl
  have g1 := hf 1 _ rfl
  match cs, hlen' with
  | [c0, c1], _ =>
    have e0 : (([c0, c1].drop 0).take (Try.prog.cellsOf 9)) = [c0] := by rw [show Try.prog.cellsOf 9 = 1 by kernel_rfl]; rfl
    obtain ⟨y0, hy0⟩ : ∃ y, DataW.trod enc Try.prog w base spare held m 9 [c0] = some y := by rw [← e0]; exact ⟨_, g0.trans (List.getElem?_eq_getElem (by simp_all))⟩
    obtain ⟨x0, hx0, _, hz0⟩ := DataW.trod_string Try.underlying9 hy0
    have e1 : (([c0, c1].drop 1).take (Try.prog.cellsOf 2)) = [c1] := by rw [show Try.prog.cellsOf 2 = 1 by kernel_rfl]; rfl
    obtain ⟨y1, hy1⟩ : ∃ y, DataW.trod enc Try.prog w base spare held m 2 [c1] = some y := by rw [← e1]; exact ⟨_, g1.trans (List.getElem?_eq_getElem (by simp_all))⟩
    obtain ⟨x1, hx1, _, hz1⟩ := DataW.trod_int Try.underlying2 hy1
    refine ⟨⟨x0, x1⟩, ?_, hz0, wf64 hz1⟩
    simp only [List.cons.injEq, and_true] at hx0 hx1
    subst hx0 hx1
    rfl

theorem open_Setting {H : Type} {enc : TypeId × Value → H} {w : World} {base : Nat} {spare : Nat → Bool} {held : Bool} {r : Reach} {b0 : Nat} {v : Value} {d : DataW H} {p : List MemPlace} (hv : Value.okWide Try.prog w r b0 71 v)
    (h : DataW.Trod enc Try.prog w base spare held 71 v d p) : ∃ x : DSetting, v = .agg #[.string x.fName, .int .i64 x.fValue] ∧ x.good := by
  obtain ⟨cs, rfl, hsz⟩ := WideShapes.okWide_struct Try.underlying71 hv
  obtain ⟨fuel, hf⟩ := h
  obtain ⟨x, hx, hg⟩ := el_Setting fuel _ _ hf
  refine ⟨x, ?_, hg⟩
  congr 1
  apply Array.toList_inj.1
  exact hx

set_option maxHeartbeats 400000 in
theorem l_szSetting (x : DSetting) (left : Int) (w : World) (hg : x.good) (h0 : 0 ≤ left) (h1 : left ≤ 1048576) :
    Calls Try.prog 53 #[.agg #[.string x.fName, .int .i64 x.fValue], .int .i64 left] w (SzB left x.sz w) := by
  obtain ⟨g0, g1⟩ := hg
  unfold maxLen at g0
  clear g1
  by_cases c0 : left - x.fName.size < 0
  · go_enter Try.func53, Try.ntmps53
    go_wp2
    go_ret
    exact SzB.neg (by (repeat (first | exact Below.refl _ _ | assumption | refine Below.drew ?_ | refine Below.alloc ?_ (by first | omega | (simp; done) | (simp; omega) | exact Below.size (by assumption)) _ | refine Below.setCell ?_ (by first | omega | (simp; done) | (simp; omega)) _)))
  · go_enter Try.func53, Try.ntmps53
    go_wp2
    go_ret
    exact SzB.ok (by (repeat (first | exact Below.refl _ _ | assumption | refine Below.drew ?_ | refine Below.alloc ?_ (by first | omega | (simp; done) | (simp; omega) | exact Below.size (by assumption)) _ | refine Below.setCell ?_ (by first | omega | (simp; done) | (simp; omega)) _))) (by omega) (by unfold DSetting.sz; omega)

theorem l_toSetting (x : DSetting) (w : World) :
    Calls Try.prog 57 #[.agg #[.string x.fName, .int .i64 x.fValue]] w fun e w' => e = .returned (.agg #[.string x.fName, .int .i64 x.fValue]) ∧ Below w.heap.size w w' := by
  go_enter Try.func57, Try.ntmps57
  go_wp2
  exact bodyPost_ret (v := .agg #[.string x.fName, .int .i64 x.fValue]) (by simp [results, Try.results57, go_sem]) rfl ⟨rfl, by (repeat (first | exact Below.refl _ _ | assumption | refine Below.drew ?_ | refine Below.alloc ?_ (by first | omega | (simp; done) | (simp; omega) | exact Below.size (by assumption)) _ | refine Below.setCell ?_ (by first | omega | (simp; done) | (simp; omega)) _))⟩

set_option maxHeartbeats 400000 in
theorem l_eqSetting (x : DSetting) (w : World) :
    Calls Try.prog 64 #[.agg #[.string x.fName, .int .i64 x.fValue], .agg #[.string x.fName, .int .i64 x.fValue]] w (RetB true w) := by
  go_enter Try.func64, Try.ntmps64
  go_wp2
  go_ret
  exact ⟨rfl, by (repeat (first | exact Below.refl _ _ | assumption | refine Below.drew ?_ | refine Below.alloc ?_ (by first | omega | (simp; done) | (simp; omega) | exact Below.size (by assumption)) _ | refine Below.setCell ?_ (by first | omega | (simp; done) | (simp; omega)) _))⟩

set_option maxHeartbeats 400000 in
theorem l_szSettingS (A : Option Addr) (n c : Nat) (l : List DSetting) (left : Int) (w : World) (hr : Rd settingE w A n l) (hn : n ≤ maxLen)
    (hs : ∀ x ∈ l, x.good) (h0 : 0 ≤ left) (h1 : left ≤ 1048576) :
    Calls Try.prog 31 #[.slice A n c, .int .i64 left] w (SzB left (sumSetting l + n) w) := by
  unfold maxLen at hn
  have Hl := Lib.hid hr.1
  have HS := Lib.hid hs; clear hs
  by_cases hlt : left - n < 0
  · go_enter Try.func31, Try.ntmps31
    go_wp2
    go_ret
    exact SzB.neg (by (repeat (first | exact Below.refl _ _ | assumption | refine Below.drew ?_ | refine Below.alloc ?_ (by first | omega | (simp; done) | (simp; omega) | exact Below.size (by assumption)) _ | refine Below.setCell ?_ (by first | omega | (simp; done) | (simp; omega)) _)))
  · go_enter Try.func31, Try.ntmps31
    go_wp2_with fail
    go_loopw [1, 5] (fun t i wr => ∃ (k : Nat) (a : Int), k ≤ n ∧ 0 ≤ a ∧ a ≤ 1048576 ∧ i = .int .i64 k ∧ t = .int .i64 a ∧ Hid (a = left - n - sumSetting l + sumSetting (l.drop k)) ∧ Below w.heap.size w wr) (fun _ i _ => n - (intOf i).toNat)
    case atStart => exact ⟨0, left - n, by omega, by omega, by omega, rfl, rfl, Lib.hid (by rw [List.drop_zero]; omega), by (repeat (first | exact Below.refl _ _ | assumption | refine Below.drew ?_ | refine Below.alloc ?_ (by first | omega | (simp; done) | (simp; omega) | exact Below.size (by assumption)) _ | refine Below.setCell ?_ (by first | omega | (simp; done) | (simp; omega)) _))⟩
    case round =>
      obtain ⟨k, a, hk, ha0, ha1, rfl, rfl, HH, hb⟩ := hrel
      by_cases hkn : k < n
      · obtain ⟨b, off, x, rfl, hks, hc⟩ := hr.get hkn
        have hc0 := range_below (B := 0) hc hb 0 _ rfl
        have hc1 := range_below (B := 0) hc hb 1 _ rfl
        simp only [settingE, Nat.add_zero] at hc0 hc1
        have hx := Lib.hid (HS.out x (mem_of_get hks))
        have HD := Lib.hid (drop_of_get hks); clear hks hc
        go_wp2_with fail
        refine (l_szSetting x a _ hx.out ha0 ha1).mono ?_
        rintro e w1 ⟨r, rfl, hb1, hr0, hr1⟩
        by_cases hneg : r < 0
        · obtain rfl : r = -1 := by omega
          clear hr1
          go_wp2
          go_ret
          exact SzB.neg (hb.trans (hb1.mono hb.size))
        · have h2 := hr1 (by omega)
          have h3 := x.sz_nonneg
          have H2 := Lib.hid h2
          have h4 : r ≤ 1048576 := by omega
          clear h2 h3 hr1
          go_wp2
          first | (refine ⟨⟨k + 1, r, by omega, by omega, by omega, by go_num, by go_num, Lib.hid (by have h5 := HH.out; rw [HD.out, sumSetting] at h5; have := H2.out; omega), hb.trans (hb1.mono hb.size)⟩, ?_⟩; (simp [intOf]; omega)) | (go_roundw; (case rel => first | exact ⟨k + 1, r, by omega, by omega, by omega, by go_num, by go_num, Lib.hid (by have h5 := HH.out; rw [HD.out, sumSetting] at h5; have := H2.out; omega), hb.trans (hb1.mono hb.size)⟩ | ((try refine ⟨trivial, ?_⟩); (repeat apply Exists.intro); exact ⟨⟨k + 1, r, by omega, by omega, by omega, by go_num, by go_num, Lib.hid (by have h5 := HH.out; rw [HD.out, sumSetting] at h5; have := H2.out; omega), hb.trans (hb1.mono hb.size)⟩, rfl⟩)); (case measure => (simp [intOf]; omega)))
      · go_wp2
        go_ret
        have hh := HH.out
        rw [List.drop_of_length_le (by have := Hl.out; omega), sumSetting] at hh
        exact SzB.ok hb ha0 (by omega)

theorem Try.info_Setting : (Try.prog.info? 56).map (fun i => (i.zero, i.size, i.bytes)) = some (some (.agg #[.string ⟨#[]⟩, .int .i64 0]), 2, 24) := by kernel_rfl
set_option maxHeartbeats 400000 in
theorem l_toSettingS (A : Option Addr) (n c : Nat) (l : List DSetting) (w : World) (hr : Rd settingE w A n l) (hn : n ≤ 1048576) :
    Calls Try.prog 40 #[.slice A n c] w (RetOwn settingE 56 l n w) := by
  have Hl := Lib.hid hr.1
  obtain ⟨i0, hi, hz0, hz1, hz2⟩ := info_parts Try.info_Setting
  have hmk := fun W => run_make_rows (P := Try.prog) 38 56 i0 _ Try.underlying38 hi hz0 hz1 .i64 .i64 n (by rw [hz2]; omega) (by omega) W
  clear hi hz0 hz1 hz2
  go_enter Try.func40, Try.ntmps40
  go_wp2_with fail
  clear hmk
  go_loopw [4] (fun i wr => ∃ k : Nat, k ≤ n ∧ i = .int .i64 k ∧ Part settingE 56 w.heap.size w.heap.size n l k wr ∧ Below w.heap.size w wr) (fun i _ => n - (intOf i).toNat)
  case atStart => exact ⟨0, Nat.zero_le _, rfl, Part.made (E := settingE) (z := #[.string ⟨#[]⟩, .int .i64 0]) (x := ⟨⟨#[]⟩, 0⟩) rfl (Nat.le_refl _) (by unfold maxLen; omega), by (repeat (first | exact Below.refl _ _ | assumption | refine Below.drew ?_ | refine Below.alloc ?_ (by first | omega | (simp; done) | (simp; omega) | exact Below.size (by assumption)) _ | refine Below.setCell ?_ (by first | omega | (simp; done) | (simp; omega)) _))⟩
  case round =>
    obtain ⟨k, hk, rfl, hp, hb⟩ := hrel
    by_cases hkn : k < n
    · obtain ⟨b, off, x, rfl, hks, hc⟩ := hr.get hkn
      have hc0 := range_below (B := 0) hc hb 0 _ rfl
      have hc1 := range_below (B := 0) hc hb 1 _ rfl
      simp only [settingE, Nat.add_zero] at hc0 hc1
      have HK := Lib.hid hks; clear hks hc
      go_wp2_with fail
      refine (l_toSetting x _).mono ?_
      rintro e w1 ⟨rfl, hb1⟩
      have hp1 := hp.below hb1
      obtain ⟨u0, hu0⟩ := hp1.cell (j := k * 2) (by simp only [settingE]; omega)
      have hf0 := hp1.free (k * 2)
      obtain ⟨u1, hu1⟩ := hp1.cell (j := k * 2 + 1) (by simp only [settingE]; omega)
      have hf1 := hp1.free (k * 2 + 1)
      have HP := Lib.hid (hp1.sets HK.out hkn)
      have hb2 := below_setCells (Nat.le_refl w.heap.size) (settingE.cells x) (k * 2) (hb.trans (hb1.mono hb.size))
      clear hc0 hc1
      go_wp2
      first | (refine ⟨⟨k + 1, by omega, by go_num, HP.out, hb2⟩, ?_⟩; (simp [intOf]; omega)) | (go_roundw; (case rel => first | exact ⟨k + 1, by omega, by go_num, HP.out, hb2⟩ | ((try refine ⟨trivial, ?_⟩); (repeat apply Exists.intro); exact ⟨⟨k + 1, by omega, by go_num, HP.out, hb2⟩, rfl⟩)); (case measure => (simp [intOf]; omega)))
    · go_wp2
      go_ret
      exact ⟨_, _, rfl, Hl.out, hp.done Hl.out (by omega), hb⟩

set_option maxHeartbeats 400000 in
theorem l_eqSettingS (A A' : Option Addr) (n c c' : Nat) (l : List DSetting) (w : World) (hr : Rd settingE w A n l) (hr' : Rd settingE w A' n l) (hn : n ≤ maxLen) :
    Calls Try.prog 52 #[.slice A n c, .slice A' n c'] w (RetB true w) := by
  unfold maxLen at hn
  go_enter Try.func52, Try.ntmps52
  go_wp2
  go_loopw [5] (fun i wr => ∃ k : Nat, k ≤ n ∧ i = .int .i64 k ∧ Below w.heap.size w wr) (fun i _ => n - (intOf i).toNat)
  case atStart => exact ⟨0, Nat.zero_le _, rfl, by (repeat (first | exact Below.refl _ _ | assumption | refine Below.drew ?_ | refine Below.alloc ?_ (by first | omega | (simp; done) | (simp; omega) | exact Below.size (by assumption)) _ | refine Below.setCell ?_ (by first | omega | (simp; done) | (simp; omega)) _))⟩
  case round =>
    obtain ⟨k, hk, rfl, hb⟩ := hrel
    by_cases hkn : k < n
    · obtain ⟨b, off, x, rfl, hks, hc⟩ := hr.get hkn
      obtain ⟨b', off', x', rfl, hks', hc'⟩ := hr'.get hkn
      obtain rfl : x = x' := Option.some.inj (hks.symm.trans hks')
      have hc0 := range_below (B := 0) hc hb 0 _ rfl
      have hc1 := range_below (B := 0) hc hb 1 _ rfl
      simp only [settingE, Nat.add_zero] at hc0 hc1
      have hd0 := range_below (B := 0) hc' hb 0 _ rfl
      have hd1 := range_below (B := 0) hc' hb 1 _ rfl
      simp only [settingE, Nat.add_zero] at hd0 hd1
      clear hc hc' hks hks'
      go_wp2_with fail
      go_still_tail 8, (by kernel_rfl)
      change wpList _ _ _ _ _ wr.drew
      go_wp2_with fail
      refine (l_eqSetting x _).mono ?_
      rintro e w1 ⟨rfl, hb1⟩
      have hb2 := hb.drew.trans (hb1.mono hb.size)
      go_wp2
      first | (refine ⟨⟨k + 1, by omega, by go_num, hb2⟩, ?_⟩; (simp [intOf]; omega)) | (go_roundw; (case rel => first | exact ⟨k + 1, by omega, by go_num, hb2⟩ | ((try refine ⟨trivial, ?_⟩); (repeat apply Exists.intro); exact ⟨⟨k + 1, by omega, by go_num, hb2⟩, rfl⟩)); (case measure => (simp [intOf]; omega)))
    · go_wp2
      go_ret
      exact ⟨rfl, hb⟩

def mark1Setting (m : Nat) : DSetting := ⟨mt (m + 0), ((m + 1 : Nat) : Int)⟩
def markLSetting (n k : Nat) : List DSetting := (List.range n).map fun i => mark1Setting (k + 2 * i)
theorem markLSetting_get (n k i : Nat) (h : i < n) : (markLSetting n k)[i]? = some (mark1Setting (k + 2 * i)) := by simp [markLSetting, h]
theorem markLSetting_len (n k : Nat) : (markLSetting n k).length = n := by simp [markLSetting]

set_option maxHeartbeats 1000000 in
theorem l_markSettingS (F : Nat → Prop) (A : Option Addr) (n c : Nat) (l : List DSetting) (k0 : Int) (w : World) (hO : OL settingE 56 F w A n c l) (hn : n ≤ 34359738368) (h0 : 0 ≤ k0) (h1 : k0 ≤ 549755813888) :
    Calls Try.prog 29 #[.slice A n c, .int .i64 k0] w (MarkR settingE 56 F A n c (markLSetting n k0.toNat) (k0 + 2 * n) w) := by
  obtain ⟨m, rfl⟩ := Int.eq_ofNat_of_zero_le h0
  rw [Int.toNat_natCast]
  have HM := Lib.hid (markLSetting_len n m)
  go_enter Try.func29, Try.ntmps29
  go_wp2_with fail
  go_loopw [1, 5] (fun t i wr => ∃ k : Nat, k ≤ n ∧ i = .int .i64 k ∧ t = .int .i64 (m + 2 * k) ∧ PartV settingE 56 0 A n c (markLSetting n m) k wr ∧ Touch F w wr) (fun _ i _ => n - (intOf i).toNat)
  case atStart => exact ⟨0, Nat.zero_le _, rfl, by go_num, PartV.start hO.1 hO.2.1, Touch.refl F w⟩
  case round =>
    obtain ⟨k, hk, rfl, rfl, hp, ht⟩ := hrel
    by_cases hkn : k < n
    · obtain ⟨g, rfl⟩ := hp.form (by omega)
      have hFg := hO.2.2 g rfl
      have HK := Lib.hid (markLSetting_get n m k hkn)
      obtain ⟨zs, hz, htk, ho⟩ := hp
      have Hz := Lib.hid hz
      have Htk := Lib.hid htk
      clear hz htk
      simp only [settingE] at ho
      go_wp2_with fail
      refine (l_markText_at _ _ (by omega) (by omega)).mono ?_
      rintro e w1 ⟨T0, rfl, HT0, hb0⟩
      replace ht := ht.trans (Touch.of_below hb0)
      replace ho := own_below ho hb0
      obtain ⟨u0, hu0⟩ := own_cell ho (j := k * 2) (by omega)
      have hf0 := ho.frozenAt (k * 2)
      replace ho := (ho.stored (k * 2) (.string T0)).1
      replace ht := ht.trans (Touch.setCell (p := ⟨g, k * 2, none⟩) hFg (.string T0))
      obtain ⟨u1, hu1⟩ := own_cell ho (j := k * 2 + 1) (by omega)
      have hf1 := ho.frozenAt (k * 2 + 1)
      replace ho := (ho.stored (k * 2 + 1) (.int .i64 ((m : Int) + 2 * k + 1))).1
      replace ht := ht.trans (Touch.setCell (p := ⟨g, k * 2 + 1, none⟩) hFg (.int .i64 ((m : Int) + 2 * k + 1)))
      have HC : Hid ([.string T0, .int .i64 ((m : Int) + 2 * k + 1)] = settingE.cells (mark1Setting (m + 2 * k))) := Lib.hid (by
        rw [show T0 = mt (m + 2 * k + 0) from HT0.out.trans (congrArg mt (by omega))]
        rw [show (m : Int) + 2 * k + 1 = ((m + 2 * k + 1 : Nat) : Int) from by omega]
        rfl)
      have HP := Lib.hid (PartV.of_sets (E := settingE) Hz.out Htk.out HK.out hkn (by rw [← HC.out]; exact ho))
      go_wp2
      first | (refine ⟨⟨k + 1, by omega, by go_num, by go_num, HP.out, ht⟩, ?_⟩; (simp [intOf]; omega)) | (go_roundw; (case rel => first | exact ⟨k + 1, by omega, by go_num, by go_num, HP.out, ht⟩ | ((try refine ⟨trivial, ?_⟩); (repeat apply Exists.intro); exact ⟨⟨k + 1, by omega, by go_num, by go_num, HP.out, ht⟩, rfl⟩)); (case measure => (simp [intOf]; omega)))
    · go_wp2
      go_ret
      obtain rfl : k = n := by omega
      exact ⟨by go_num, ⟨hp.done HM.out (Nat.le_refl _), HM.out, hO.2.2⟩, ht⟩

set_option maxHeartbeats 2000000 in
theorem l_heldSettingS (F : Nat → Prop) (A : Option Addr) (n c : Nat) (k0 : Int) (w : World) (hO : OL settingE 56 F w A n c (markLSetting n k0.toNat)) (hn : n ≤ 34359738368) (h0 : 0 ≤ k0) (h1 : k0 ≤ 549755813888) :
    Calls Try.prog 30 #[.slice A n c, .int .i64 k0] w (HeldR (k0 + 2 * n) w) := by
  obtain ⟨m, rfl⟩ := Int.eq_ofNat_of_zero_le h0
  rw [Int.toNat_natCast] at hO
  have hr := hO.rd
  go_enter Try.func30, Try.ntmps30
  go_wp2_with fail
  go_loopw [1, 5] (fun t i wr => ∃ k : Nat, k ≤ n ∧ i = .int .i64 k ∧ t = .int .i64 (m + 2 * k) ∧ Below w.heap.size w wr) (fun _ i _ => n - (intOf i).toNat)
  case atStart => exact ⟨0, Nat.zero_le _, rfl, by go_num, Below.refl _ _⟩
  case round =>
    obtain ⟨k, hk, rfl, rfl, hb⟩ := hrel
    by_cases hkn : k < n
    · obtain ⟨b, off, x, rfl, hks, hc⟩ := hr.get hkn
      obtain rfl : x = mark1Setting (m + 2 * k) := Option.some.inj (hks.symm.trans (markLSetting_get n m k hkn))
      clear hks
      have HC := Lib.hid hc; clear hc
      have hc0 := range_below (B := 0) HC.out hb 0 (.string (mt (m + 2 * k + 0))) rfl
      simp only [settingE, Nat.add_zero] at hc0
      have HM0 : Hid (∀ W, Calls Try.prog 28 #[.int .i64 ((m : Int) + 2 * k)] W fun e w' => e = .returned (.string (mt (m + 2 * k + 0))) ∧ Below W.heap.size W w') := Lib.hid (by
        intro W
        have := l_markText (m + 2 * k + 0) W (by omega)
        rw [show ((m + 2 * k + 0 : Nat) : Int) = (m : Int) + 2 * k from by omega] at this
        exact this)
      go_wp2_with fail
      go_region_held3 (fun w' => w'.cell? ⟨b, off + k * 2, none⟩ = some (.string (mt (m + 2 * k + 0))) ∧ Below w.heap.size w w') (first | exact ⟨hc0, hb.drew⟩ | (go_split_ands; exact ⟨cell_later hbm (by assumption), Below.trans (by assumption) (hbm.mono (Below.size (by assumption)))⟩) | (go_split_ands; exact ⟨by assumption, by assumption⟩))
        (first | (go_at_call 28; refine (HM0.out _).mono ?_; rintro e w0 ⟨rfl, hbm⟩))
      rename_i hh
      obtain ⟨_, hb0⟩ := hh
      clear hbm hc0
      have hc1 := range_below (B := 0) HC.out hb0 1 (.int .i64 ((m : Int) + 2 * k + 1)) (by rw [show (m : Int) + 2 * k + 1 = ((m + 2 * k + 1 : Nat) : Int) from by omega]; rfl)
      simp only [settingE, Nat.add_zero] at hc1
      go_wp2_with fail
      clear hc1
      go_wp2
      first | (refine ⟨⟨k + 1, by omega, by go_num, by go_num, hb0⟩, ?_⟩; (simp [intOf]; omega)) | (go_roundw; (case rel => first | exact ⟨k + 1, by omega, by go_num, by go_num, hb0⟩ | ((try refine ⟨trivial, ?_⟩); (repeat apply Exists.intro); exact ⟨⟨k + 1, by omega, by go_num, by go_num, hb0⟩, rfl⟩)); (case measure => (simp [intOf]; omega)))
    · go_wp2
      go_ret
      obtain rfl : k = n := by omega
      exact ⟨by go_num, hb⟩

end Go.Proofs.Ytfabijhilfjkcaa


/- Version: how one lies (two numbers, a memo, and settings in memory of their own), and the law files' helpers on it. -/
import Derived.Test.YtfabijhilfjkcaaRows
import Derived.Test.YtfabijhilfjkcaaMem
import Derived.Test.YtfabijhilfjkcaaLaw
import Derived.Test.YtfabijhilfjkcaaConvS
import Derived.Test.YtfabijhilfjkcaaMarks
import Derived.Test.YtfabijhilfjkcaaNest
import Derived.Test.YtfabijhilfjkcaaResG
import Derived.Test.YtfabijhilfjkcaaCSetting
import Derived.Test.YtfabijhilfjkcaaVerLaw
import Derived.Test.YtfabijhilfjkcaaTouch
import Derived.StillTailTactics
namespace Go.Proofs.Ytfabijhilfjkcaa
set_option linter.unusedVariables false
set_option linter.unusedSimpArgs false
set_option linter.unusedSectionVars false
open Go.RowKit

def DVersion.good (x : DVersion) : Prop := (-9223372036854775808 ≤ x.fNumber ∧ x.fNumber ≤ 9223372036854775807) ∧ (-9223372036854775808 ≤ x.fParent ∧ x.fParent ≤ 9223372036854775807) ∧ x.fMemo.size ≤ maxLen ∧ x.fState.length ≤ maxLen ∧ ∀ s ∈ x.fState, s.good
def DVersion.sz (x : DVersion) : Int := x.fMemo.size + (sumSetting x.fState + x.fState.length)
def sumVersion : List DVersion → Int
  | [] => 0
  | x :: r => x.sz + sumVersion r
theorem DVersion.sz_nonneg (x : DVersion) : 0 ≤ x.sz := by have := sumSetting_nonneg x.fState; unfold DVersion.sz; omega
theorem sumVersion_nonneg (l : List DVersion) : 0 ≤ sumVersion l := by
  induction l with
  | nil => simp [sumVersion]
  | cons s r ih => have := s.sz_nonneg; simp only [sumVersion]; omega
theorem sumVersion_mem {l : List DVersion} {x : DVersion} (h : x ∈ l) : x.sz ≤ sumVersion l := by
  induction l with
  | nil => cases h
  | cons y r ih =>
    have h0 := sumVersion_nonneg r
    have h1 := y.sz_nonneg
    simp only [sumVersion]
    cases List.mem_cons.1 h with
    | inl e => subst e; omega
    | inr e => have := ih e; omega
theorem state_le {l : List DVersion} {x : DVersion} (h : x ∈ l) (hs : sumVersion l ≤ 1048576) : x.fState.length ≤ 1048576 := by
  have h1 := sumVersion_mem h
  have h2 := sumSetting_nonneg x.fState
  unfold DVersion.sz at h1
  omega
/-- as one lies -/
structure RawV where
  u : Int
  p : Int
  s : ByteArray
  A : Option Addr
  n : Nat
  c : Nat
def rawVE : Enc RawV := ⟨4, fun x => [.int .i64 x.u, .int .i64 x.p, .string x.s, .slice x.A x.n x.c], fun _ => rfl, by decide, fun _ u h => by simp at h; rcases h with rfl | rfl | rfl | rfl <;> rfl⟩
def RawV.zero : RawV := ⟨0, 0, ⟨#[]⟩, none, 0, 0⟩
structure RawV.of (x : RawV) (d : DVersion) : Prop where
  u : x.u = d.fNumber
  p : x.p = d.fParent
  s : x.s = d.fMemo

/-- The slice '.slice A n _' reads as the list l of versions. -/
def RdVersion (w : World) (A : Option Addr) (n : Nat) (l : List DVersion) : Prop :=
  ∃ r : List RawV, Rd rawVE w A n r ∧ l.length = n ∧ ∀ (k : Nat) x d, r[k]? = some x → l[k]? = some d → x.of d ∧ Rd settingE w x.A x.n d.fState
section
variable {w w' : World} {A : Option Addr} {n c : Nat} {l : List DVersion}
theorem RdVersion.len (h : RdVersion w A n l) : l.length = n := h.elim fun _ h => h.2.1
theorem RdVersion.below (h : RdVersion w A n l) (hb : Below w.heap.size w w') : RdVersion w' A n l := by
  obtain ⟨r, h1, h2, h3⟩ := h
  exact ⟨r, h1.below hb, h2, fun k x d hx hd => ⟨(h3 k x d hx hd).1, (h3 k x d hx hd).2.below hb⟩⟩
theorem RdVersion.get (h : RdVersion w A n l) {k : Nat} (hk : k < n) : ∃ b off d A' n' c', A = some ⟨b, off, none⟩ ∧ l[k]? = some d ∧ w.rangeAt b (off + k * 4) [.int .i64 d.fNumber, .int .i64 d.fParent, .string d.fMemo, .slice A' n' c'] ∧ Rd settingE w A' n' d.fState := by
  obtain ⟨r, h1, h2, h3⟩ := h
  obtain ⟨b, off, x, rfl, hx, hc⟩ := h1.get hk
  obtain ⟨d, hd⟩ : ∃ d, l[k]? = some d := ⟨_, List.getElem?_eq_getElem (by omega)⟩
  obtain ⟨⟨e1, e2, e3⟩, hr⟩ := h3 k x d hx hd
  refine ⟨b, off, d, x.A, x.n, x.c, rfl, hd, ?_, hr⟩
  rw [← e1, ← e2, ← e3]
  exact hc
end

/-- An owned list of versions: all its blocks lie in F. -/
def OVer (F : Nat → Prop) (w : World) (A : Option Addr) (n c : Nat) (l : List DVersion) : Prop :=
  ∃ (r : List RawV) (F0 : Nat → Prop) (G : Nat → Nat → Prop), OL rawVE 45 F0 w A n c r ∧ l.length = n ∧ (∀ k, F0 k → F k) ∧ (∀ i k, G i k → F k ∧ ¬ F0 k) ∧ (∀ i j k, i ≠ j → G i k → ¬ G j k) ∧
    ∀ (i : Nat) x d, r[i]? = some x → l[i]? = some d → x.of d ∧ OL settingE 56 (G i) w x.A x.n x.c d.fState
section
variable {F H : Nat → Prop} {w w' : World} {A : Option Addr} {n c : Nat} {l : List DVersion}
theorem OVer.below (h : OVer F w A n c l) (hb : Below w.heap.size w w') : OVer F w' A n c l := by
  obtain ⟨r, F0, G, h1, h2, h3, h4, h5, h6⟩ := h
  exact ⟨r, F0, G, h1.below hb, h2, h3, h4, h5, fun i x d hx hd => ⟨(h6 i x d hx hd).1, (h6 i x d hx hd).2.below hb⟩⟩
theorem OVer.touch (h : OVer F w A n c l) (ht : Touch H w w') (hd : ∀ k, F k → ¬ H k) : OVer F w' A n c l := by
  obtain ⟨r, F0, G, h1, h2, h3, h4, h5, h6⟩ := h
  exact ⟨r, F0, G, h1.touch ht fun k hk => hd k (h3 k hk), h2, h3, h4, h5, fun i x d hx hd' => ⟨(h6 i x d hx hd').1, (h6 i x d hx hd').2.touch ht fun k hk => hd k (h4 i k hk).1⟩⟩
theorem OVer.rd (h : OVer F w A n c l) : RdVersion w A n l := by
  obtain ⟨r, F0, G, h1, h2, _, _, _, h6⟩ := h
  exact ⟨r, h1.rd, h2, fun k x d hx hd => ⟨(h6 k x d hx hd).1, (h6 k x d hx hd).2.rd⟩⟩
theorem OVer.max (h : OVer F w A n c l) : n ≤ maxLen := by
  obtain ⟨r, F0, G, h1, _⟩ := h
  exact h1.max
theorem OVer.more (h : OVer F w A n c l) (hF : ∀ k, F k → H k) : OVer H w A n c l := by
  obtain ⟨r, F0, G, h1, h2, h3, h4, h5, h6⟩ := h
  exact ⟨r, F0, G, h1, h2, fun k hk => hF k (h3 k hk), fun i k hk => ⟨hF k (h4 i k hk).1, (h4 i k hk).2⟩, h5, h6⟩
theorem OVer.nil (F : Nat → Prop) (w : World) : OVer F w none 0 0 [] :=
  ⟨[], fun _ => False, fun _ _ => False, ⟨⟨by simp, .inl ⟨rfl, rfl⟩⟩, rfl, fun k hk => by cases hk⟩, rfl, fun k hk => hk.elim, fun i k hk => hk.elim, fun i j k _ hk => hk.elim, fun i x d hx => by simp at hx⟩
end

set_option maxRecDepth 100000 in
theorem el_Version {H : Type} {enc : TypeId × Value → H} {w : World} {base : Nat} {spare : Nat → Bool} {held : Bool} (n : Nat) (cs : List Value) (y : DataW H × List MemPlace) (h : DataW.trod enc Try.prog w base spare held n 34 cs = some y) :
    ∃ x : RawV, cs = rawVE.cells x ∧ ∃ d : DVersion, x.of d ∧ Rd settingE w x.A x.n d.fState ∧ d.good := by
  obtain ⟨xs, m, _, _, hlen, _, hf⟩ := DataW.trod_struct Try.underlying34 h
  have hlen' : cs.length = 4 := hlen.trans (by kernel_rfl)
  have g0 := hf 0 _ rfl
  have g1 := hf 1 _ rfl
  have g2 := hf 2 _ rfl
  have g3 := hf 3 _ rfl
  match cs, hlen' with
  | [c0, c1, c2, c3], _ =>
    have e0 : (([c0, c1, c2, c3].drop 0).take (Try.prog.cellsOf 2)) = [c0] := by rw [show Try.prog.cellsOf 2 = 1 by kernel_rfl]; rfl
    obtain ⟨y0, hy0⟩ : ∃ y, DataW.trod enc Try.prog w base spare held m 2 [c0] = some y := by rw [← e0]; exact ⟨_, g0.trans (List.getElem?_eq_getElem (by simp_all))⟩
    obtain ⟨x0, hx0, _, hz0⟩ := DataW.trod_int Try.underlying2 hy0
    have e1 : (([c0, c1, c2, c3].drop 1).take (Try.prog.cellsOf 2)) = [c1] := by rw [show Try.prog.cellsOf 2 = 1 by kernel_rfl]; rfl
    obtain ⟨y1, hy1⟩ : ∃ y, DataW.trod enc Try.prog w base spare held m 2 [c1] = some y := by rw [← e1]; exact ⟨_, g1.trans (List.getElem?_eq_getElem (by simp_all))⟩
    obtain ⟨x1, hx1, _, hz1⟩ := DataW.trod_int Try.underlying2 hy1
    have e2 : (([c0, c1, c2, c3].drop 2).take (Try.prog.cellsOf 9)) = [c2] := by rw [show Try.prog.cellsOf 9 = 1 by kernel_rfl]; rfl
    obtain ⟨y2, hy2⟩ : ∃ y, DataW.trod enc Try.prog w base spare held m 9 [c2] = some y := by rw [← e2]; exact ⟨_, g2.trans (List.getElem?_eq_getElem (by simp_all))⟩
    obtain ⟨x2, hx2, _, hz2⟩ := DataW.trod_string Try.underlying9 hy2
    have e3 : (([c0, c1, c2, c3].drop 3).take (Try.prog.cellsOf 32)) = [c3] := by rw [show Try.prog.cellsOf 32 = 1 by kernel_rfl]; rfl
    obtain ⟨y3, hy3⟩ : ∃ y, DataW.trod enc Try.prog w base spare held m 32 [c3] = some y := by rw [← e3]; exact ⟨_, g3.trans (List.getElem?_eq_getElem (by simp_all))⟩
    obtain ⟨A, k, c, l, rfl, hk, hr, hg⟩ := open_rdc settingE DSetting.good Try.underlying32 (by kernel_rfl) el_Setting hy3
    simp only [List.cons.injEq, and_true] at hx0 hx1 hx2
    subst hx0 hx1 hx2
    exact ⟨⟨x0, x1, x2, A, k, c⟩, rfl, ⟨x0, x1, x2, l⟩, ⟨rfl, rfl, rfl⟩, hr, wf64 hz0, wf64 hz1, hz2, by rw [hr.1]; exact hk, hg⟩
theorem RdVersion.of_raw {w : World} {A : Option Addr} {n : Nat} {r : List RawV} (h : Rd rawVE w A n r) (hg : ∀ x ∈ r, ∃ d : DVersion, x.of d ∧ Rd settingE w x.A x.n d.fState ∧ d.good) : ∃ l : List DVersion, RdVersion w A n l ∧ ∀ d ∈ l, d.good := by
  have key : ∀ r : List RawV, (∀ x ∈ r, ∃ d : DVersion, x.of d ∧ Rd settingE w x.A x.n d.fState ∧ d.good) → ∃ l : List DVersion, l.length = r.length ∧ (∀ (k : Nat) x d, r[k]? = some x → l[k]? = some d → x.of d ∧ Rd settingE w x.A x.n d.fState) ∧ ∀ d ∈ l, d.good := by
    intro r
    induction r with
    | nil => exact fun _ => ⟨[], rfl, fun k x d h => by simp at h, fun d h => by cases h⟩
    | cons x r ih =>
      intro hg
      obtain ⟨d, h1, h2, h3⟩ := hg x (by simp)
      obtain ⟨l, h4, h5, h6⟩ := ih fun y hy => hg y (by simp [hy])
      refine ⟨d :: l, by simp [h4], fun k y e hy he => ?_, fun e he => ?_⟩
      · cases k with
        | zero =>
          simp only [List.getElem?_cons_zero, Option.some.injEq] at hy he
          subst hy he
          exact ⟨h1, h2⟩
        | succ k =>
          simp only [List.getElem?_cons_succ] at hy he
          exact h5 k y e hy he
      · rcases List.mem_cons.1 he with rfl | he
        · exact h3
        · exact h6 e he
  obtain ⟨l, h1, h2, h3⟩ := key r hg
  exact ⟨l, ⟨r, h, h1.trans h.1, h2⟩, h3⟩

set_option maxHeartbeats 400000 in
theorem l_szVersion (x : DVersion) (A : Option Addr) (n c : Nat) (left : Int) (w : World) (hr : Rd settingE w A n x.fState) (hg : x.good) (h0 : 0 ≤ left) (h1 : left ≤ 1048576) :
    Calls Try.prog 11 #[.agg #[.int .i64 x.fNumber, .int .i64 x.fParent, .string x.fMemo, .slice A n c], .int .i64 left] w (SzB left x.sz w) := by
  obtain ⟨_, _, g0, g1, g2⟩ := hg
  have hn := hr.1
  rw [hn] at g1
  have G2 := Lib.hid g2
  have Hn := Lib.hid hn
  have hs := sumSetting_nonneg x.fState
  unfold maxLen at g0
  have G1 := Lib.hid g1
  clear g2 g1 hn
  by_cases c0 : left - x.fMemo.size < 0
  · go_enter Try.func11, Try.ntmps11
    go_wp2_with fail
    go_ret
    exact SzB.neg (by (repeat (first | exact Below.refl _ _ | assumption | refine Below.drew ?_ | refine Below.alloc ?_ (by first | omega | (simp; done) | (simp; omega) | exact Below.size (by assumption)) _ | refine Below.setCell ?_ (by first | omega | (simp; done) | (simp; omega)) _)))
  · go_enter Try.func11, Try.ntmps11
    go_wp2_with fail
    refine (l_szSettingS A n c x.fState (left - x.fMemo.size) _ (hr.below (by (repeat (first | exact Below.refl _ _ | assumption | refine Below.drew ?_ | refine Below.alloc ?_ (by first | omega | (simp; done) | (simp; omega) | exact Below.size (by assumption)) _ | refine Below.setCell ?_ (by first | omega | (simp; done) | (simp; omega)) _)))) G1.out G2.out (by omega) (by omega)).mono ?_
    rintro e w1 ⟨r, rfl, hb1, hr0, hr1⟩
    have hbF : Below w.heap.size w w1 := ((Below.refl _ _).alloc (Nat.le_refl _) _).trans (hb1.mono (by simp))
    by_cases hneg : r < 0
    · obtain rfl : r = -1 := by omega
      clear hr1
      go_wp2
      go_ret
      exact SzB.neg hbF
    · have h2 := Lib.hid (hr1 (by omega))
      clear hr1
      go_wp2
      go_ret
      exact SzB.ok hbF (by omega) (by have := h2.out; have := Hn.out; unfold DVersion.sz; omega)

set_option maxHeartbeats 400000 in
theorem l_szVersionS (A : Option Addr) (n c : Nat) (l : List DVersion) (left : Int) (w : World) (hr : RdVersion w A n l) (hn : n ≤ maxLen)
    (hs : ∀ x ∈ l, x.good) (h0 : 0 ≤ left) (h1 : left ≤ 1048576) :
    Calls Try.prog 4 #[.slice A n c, .int .i64 left] w (SzB left (sumVersion l + n) w) := by
  unfold maxLen at hn
  have Hl := Lib.hid hr.len
  have HS := Lib.hid hs; clear hs
  by_cases hlt : left - n < 0
  · go_enter Try.func4, Try.ntmps4
    go_wp2
    go_ret
    exact SzB.neg (by (repeat (first | exact Below.refl _ _ | assumption | refine Below.drew ?_ | refine Below.alloc ?_ (by first | omega | (simp; done) | (simp; omega) | exact Below.size (by assumption)) _ | refine Below.setCell ?_ (by first | omega | (simp; done) | (simp; omega)) _)))
  · go_enter Try.func4, Try.ntmps4
    go_wp2_with fail
    go_loopw [1, 5] (fun t i wr => ∃ (k : Nat) (a : Int), k ≤ n ∧ 0 ≤ a ∧ a ≤ 1048576 ∧ i = .int .i64 k ∧ t = .int .i64 a ∧ Hid (a = left - n - sumVersion l + sumVersion (l.drop k)) ∧ Below w.heap.size w wr) (fun _ i _ => n - (intOf i).toNat)
    case atStart => exact ⟨0, left - n, by omega, by omega, by omega, rfl, rfl, Lib.hid (by rw [List.drop_zero]; omega), by (repeat (first | exact Below.refl _ _ | assumption | refine Below.drew ?_ | refine Below.alloc ?_ (by first | omega | (simp; done) | (simp; omega) | exact Below.size (by assumption)) _ | refine Below.setCell ?_ (by first | omega | (simp; done) | (simp; omega)) _))⟩
    case round =>
      obtain ⟨k, a, hk, ha0, ha1, rfl, rfl, HH, hb⟩ := hrel
      by_cases hkn : k < n
      · obtain ⟨b, off, x, A', n', c', rfl, hks, hc, hru⟩ := hr.get hkn
        have hc0 := range_below (B := 0) hc hb 0 _ rfl
        have hc1 := range_below (B := 0) hc hb 1 _ rfl
        have hc2 := range_below (B := 0) hc hb 2 _ rfl
        have hc3 := range_below (B := 0) hc hb 3 _ rfl
        simp only [Nat.add_zero] at hc0 hc1 hc2 hc3
        have hx := Lib.hid (HS.out x (mem_of_get hks))
        have HD := Lib.hid (drop_of_get hks); clear hks hc
        have hru' := hru.below hb
        clear hru
        go_wp2_with fail
        refine (l_szVersion x A' n' c' a _ hru' hx.out ha0 ha1).mono ?_
        rintro e w1 ⟨r, rfl, hb1, hr0, hr1⟩
        by_cases hneg : r < 0
        · obtain rfl : r = -1 := by omega
          clear hr1
          go_wp2
          go_ret
          exact SzB.neg (hb.trans (hb1.mono hb.size))
        · have h2 := hr1 (by omega)
          have h3 := x.sz_nonneg
          have H2 := Lib.hid h2
          have h4 : r ≤ 1048576 := by omega
          clear h2 h3 hr1
          go_wp2
          first | (refine ⟨⟨k + 1, r, by omega, by omega, by omega, by go_num, by go_num, Lib.hid (by have h5 := HH.out; rw [HD.out, sumVersion] at h5; have := H2.out; omega), hb.trans (hb1.mono hb.size)⟩, ?_⟩; (simp [intOf]; omega)) | (go_roundw; (case rel => first | exact ⟨k + 1, r, by omega, by omega, by omega, by go_num, by go_num, Lib.hid (by have h5 := HH.out; rw [HD.out, sumVersion] at h5; have := H2.out; omega), hb.trans (hb1.mono hb.size)⟩ | ((try refine ⟨trivial, ?_⟩); (repeat apply Exists.intro); exact ⟨⟨k + 1, r, by omega, by omega, by omega, by go_num, by go_num, Lib.hid (by have h5 := HH.out; rw [HD.out, sumVersion] at h5; have := H2.out; omega), hb.trans (hb1.mono hb.size)⟩, rfl⟩)); (case measure => (simp [intOf]; omega)))
      · go_wp2
        go_ret
        have hh := HH.out
        rw [List.drop_of_length_le (by have := Hl.out; omega), sumVersion] at hh
        exact SzB.ok hb ha0 (by omega)

/-- a version that has been copied: its settings are the call's own -/
def RetVersion (x : DVersion) (n : Nat) (w : World) (e : Ending) (w' : World) : Prop :=
  ∃ A c F, e = .returned (.agg #[.int .i64 x.fNumber, .int .i64 x.fParent, .string x.fMemo, .slice A n c]) ∧ (∀ k, F k → w.heap.size ≤ k ∧ k < w'.heap.size) ∧ OL settingE 56 F w' A n c x.fState ∧ Below w.heap.size w w'
set_option maxHeartbeats 1000000 in
theorem l_toVersion (x : DVersion) (A : Option Addr) (n c : Nat) (w : World) (hr : Rd settingE w A n x.fState) (hn : n ≤ 1048576) :
    Calls Try.prog 19 #[.agg #[.int .i64 x.fNumber, .int .i64 x.fParent, .string x.fMemo, .slice A n c]] w (RetVersion x n w) := by
  go_enter Try.func19, Try.ntmps19
  go_wp2_with fail
  refine (l_toSettingS A n c x.fState _ (hr.below (by (repeat (first | exact Below.refl _ _ | assumption | refine Below.drew ?_ | refine Below.alloc ?_ (by first | omega | (simp; done) | (simp; omega) | exact Below.size (by assumption)) _ | refine Below.setCell ?_ (by first | omega | (simp; done) | (simp; omega)) _)))) hn).mono ?_
  rintro e w1 ⟨A1, c1, rfl, hl, ho, hb⟩
  obtain ⟨F, hF, hO⟩ := OL.of_own ho hl
  have z1 : (w.alloc (.cells #[.int .i64 x.fNumber, .int .i64 x.fParent, .string x.fMemo, .slice A n c] 34)).heap.size = w.heap.size + 1 := by simp
  have z2 : ((w.alloc (.cells #[.int .i64 x.fNumber, .int .i64 x.fParent, .string x.fMemo, .slice A n c] 34)).alloc (.cells #[.int .i64 0, .int .i64 0, .string ⟨#[]⟩, .slice none 0 0] 45)).heap.size = w.heap.size + 1 + 1 := by simp
  have R1 := range_below (B := 0) (World.rangeAt_alloc (range_new (w.alloc (.cells #[.int .i64 x.fNumber, .int .i64 x.fParent, .string x.fMemo, .slice A n c] 34)) #[.int .i64 0, .int .i64 0, .string ⟨#[]⟩, .slice none 0 0] 45) (.cells #[.int .i64 x.fNumber, .int .i64 x.fParent, .string x.fMemo, .slice none 0 0] 45)) hb
  have R2 := range_below (B := 0) (range_new ((w.alloc (.cells #[.int .i64 x.fNumber, .int .i64 x.fParent, .string x.fMemo, .slice A n c] 34)).alloc (.cells #[.int .i64 0, .int .i64 0, .string ⟨#[]⟩, .slice none 0 0] 45)) #[.int .i64 x.fNumber, .int .i64 x.fParent, .string x.fMemo, .slice none 0 0] 45) hb
  have f1 := fun j => free_later (free_later (new_free (w.alloc (.cells #[.int .i64 x.fNumber, .int .i64 x.fParent, .string x.fMemo, .slice A n c] 34)) #[.int .i64 0, .int .i64 0, .string ⟨#[]⟩, .slice none 0 0] 45 j) (by simp) ((Below.refl _ _).alloc (Nat.le_refl _) (.cells #[.int .i64 x.fNumber, .int .i64 x.fParent, .string x.fMemo, .slice none 0 0] 45))) (by simp) hb
  have f2 := fun j => free_later (new_free ((w.alloc (.cells #[.int .i64 x.fNumber, .int .i64 x.fParent, .string x.fMemo, .slice A n c] 34)).alloc (.cells #[.int .i64 0, .int .i64 0, .string ⟨#[]⟩, .slice none 0 0] 45)) #[.int .i64 x.fNumber, .int .i64 x.fParent, .string x.fMemo, .slice none 0 0] 45 j) (by simp) hb
  rw [z1] at R1 f1
  rw [z2] at R2 f2
  have a0 := R1 0 _ rfl
  have a1 := R1 1 _ rfl
  have a2 := R1 2 _ rfl
  have a3 := R1 3 _ rfl
  have b0 := R2 0 _ rfl
  have b1 := R2 1 _ rfl
  have b2 := R2 2 _ rfl
  have b3 := R2 3 _ rfl
  simp only [Nat.zero_add] at a0 a1 a2 a3 b0 b1 b2 b3
  have f10 := f1 0
  have f11 := f1 1
  have f12 := f1 2
  have f13 := f1 3
  have f23 := f2 3
  have hsz := hb.size
  have hbF : Below w.heap.size w w1 := ((((Below.refl _ _).alloc (Nat.le_refl _) _).alloc (by simp) _).alloc (by simp; omega) _).trans (hb.mono (by simp; omega))
  have zz : ∀ k, F k → w.heap.size + 1 + 1 + 1 ≤ k ∧ k < w1.heap.size := fun k hk => by have := hF k hk; simp at this; omega
  clear f1 f2 R1 R2 hF hl ho
  have g0 := (World.cell?_setCell_other (w := w1) (a := ⟨w.heap.size + 1 + 1, 3, none⟩) (b := ⟨w.heap.size + 1, 0, none⟩) (v := .slice A1 n c1) (fun e => by simp at e)).trans a0
  have g1 := (World.cell?_setCell_other (w := w1) (a := ⟨w.heap.size + 1 + 1, 3, none⟩) (b := ⟨w.heap.size + 1, 1, none⟩) (v := .slice A1 n c1) (fun e => by simp at e)).trans a1
  have g2 := (World.cell?_setCell_other (w := w1) (a := ⟨w.heap.size + 1 + 1, 3, none⟩) (b := ⟨w.heap.size + 1, 2, none⟩) (v := .slice A1 n c1) (fun e => by simp at e)).trans a2
  have g3 := (World.cell?_setCell_other (w := w1) (a := ⟨w.heap.size + 1 + 1, 3, none⟩) (b := ⟨w.heap.size + 1, 3, none⟩) (v := .slice A1 n c1) (fun e => by simp at e)).trans a3
  have HF := set_cells (w := w1.setCell ⟨w.heap.size + 1 + 1, 3, none⟩ (.slice A1 n c1)) (g := w.heap.size + 1) [.int .i64 x.fNumber, .int .i64 x.fParent, .string x.fMemo, .slice A1 n c1] 0 (fun j hj => by
    match j, hj with
    | 0, _ => exact ⟨_, g0⟩
    | 1, _ => exact ⟨_, g1⟩
    | 2, _ => exact ⟨_, g2⟩
    | 3, _ => exact ⟨_, g3⟩)
  have hT : Touch (fun k => k = w.heap.size + 1 ∨ k = w.heap.size + 1 + 1) w1 ((w1.setCell ⟨w.heap.size + 1 + 1, 3, none⟩ (.slice A1 n c1)).setCells (w.heap.size + 1) 0 [.int .i64 x.fNumber, .int .i64 x.fParent, .string x.fMemo, .slice A1 n c1]) :=
    (Touch.setCell (F := fun k => k = w.heap.size + 1 ∨ k = w.heap.size + 1 + 1) (p := ⟨w.heap.size + 1 + 1, 3, none⟩) (.inr rfl) _).trans (Touch.setCells (F := fun k => k = w.heap.size + 1 ∨ k = w.heap.size + 1 + 1) (.inl rfl) _ _)
  have hsT := hT.size
  have hOW := hO.touch hT fun k hk h => by have := zz k hk; omega
  have hbW := Below.touch hbF hT (fun k h => by omega) hbF.size
  clear hb hO hbF hT
  go_wp2
  change bodyPost _ _ _ _ _ ((w1.setCell ⟨w.heap.size + 1 + 1, 3, none⟩ (.slice A1 n c1)).setCells (w.heap.size + 1) 0 [.int .i64 x.fNumber, .int .i64 x.fParent, .string x.fMemo, .slice A1 n c1])
  generalize (w1.setCell ⟨w.heap.size + 1 + 1, 3, none⟩ (.slice A1 n c1)).setCells (w.heap.size + 1) 0 [.int .i64 x.fNumber, .int .i64 x.fParent, .string x.fMemo, .slice A1 n c1] = Wf at *
  have qf0 := HF 0 _ rfl
  have qf1 := HF 1 _ rfl
  have qf2 := HF 2 _ rfl
  have qf3 := HF 3 _ rfl
  simp only [Nat.zero_add] at qf0 qf1 qf2 qf3
  exact bodyPost_ret (v := .agg #[.int .i64 x.fNumber, .int .i64 x.fParent, .string x.fMemo, .slice A1 n c1]) (by simp [results, Try.results19, go_sem, qf0, qf1, qf2, qf3]) rfl ⟨A1, c1, F, rfl, fun k hk => by have := zz k hk; omega, hOW, hbW⟩

theorem Try.info_Version : (Try.prog.info? 45).map (fun i => (i.zero, i.size, i.bytes)) = some (some (.agg #[.int .i64 0, .int .i64 0, .string ⟨#[]⟩, .slice none 0 0]), 4, 56) := by kernel_rfl
/-- the list of versions being copied: the first ones are -/
structure FillV (g n : Nat) (l : List DVersion) (r : List RawV) (G : Nat → Nat → Prop) (w : World) : Prop where
  own : w.ownsRow g 45 4 (.slice (some ⟨g, 0, none⟩) n n) n ((r ++ List.replicate (n - r.length) RawV.zero).flatMap rawVE.cells)
  low : ∀ i k, G i k → g < k ∧ k < w.heap.size ∧ i < r.length
  apart : ∀ i j k, i ≠ j → G i k → ¬ G j k
  each : ∀ (i : Nat) x d, r[i]? = some x → l[i]? = some d → x.of d ∧ OL settingE 56 (G i) w x.A x.n x.c d.fState
theorem FillV.step {g n : Nat} {l : List DVersion} {r : List RawV} {G : Nat → Nat → Prop} {w w1 : World} (h : FillV g n l r G w) (hk : r.length < n) {d : DVersion} (hd : l[r.length]? = some d) {A : Option Addr} {n' c' : Nat} {F : Nat → Prop} (hF : ∀ k, F k → w.heap.size ≤ k ∧ k < w1.heap.size)
    (hO : OL settingE 56 F w1 A n' c' d.fState) (hb : Below w.heap.size w w1) : FillV g n l (r ++ [⟨d.fNumber, d.fParent, d.fMemo, A, n', c'⟩]) (fun i k => if i = r.length then F k else G i k) (w1.setCells g (r.length * 4) [.int .i64 d.fNumber, .int .i64 d.fParent, .string d.fMemo, .slice A n' c']) := by
  have hg := (h.own.lt g rfl).2
  have ht : Touch (fun k => k = g) w1 (w1.setCells g (r.length * 4) [.int .i64 d.fNumber, .int .i64 d.fParent, .string d.fMemo, .slice A n' c']) := Touch.setCells (F := fun k => k = g) rfl _ _
  have hs := ht.size
  have hbs := hb.size
  refine ⟨?_, fun i k hG => ?_, fun i j k hij h1 h2 => ?_, fun i x e hx he => ?_⟩
  · have h1 := own_setCells [.int .i64 d.fNumber, .int .i64 d.fParent, .string d.fMemo, .slice A n' c'] (r.length * 4) (own_below h.own hb)
    have h2 := setsAt_flat rawVE (r ++ List.replicate (n - r.length) RawV.zero) r.length ⟨d.fNumber, d.fParent, d.fMemo, A, n', c'⟩ (by simp; omega)
    have h3 : setsAt ((r ++ List.replicate (n - r.length) RawV.zero).flatMap rawVE.cells) (r.length * 4) [.int .i64 d.fNumber, .int .i64 d.fParent, .string d.fMemo, .slice A n' c'] = _ := h2
    rw [h3, replicate_set hk] at h1
    exact h1
  · split at hG
    · have := hF k hG
      rw [List.length_append]
      simp
      omega
    · have := h.low i k hG
      rw [List.length_append]
      simp
      omega
  · split at h1
    · split at h2
      · omega
      · have := hF k h1
        have := h.low j k h2
        omega
    · split at h2
      · have := hF k h2
        have := h.low i k h1
        omega
      · exact h.apart i j k hij h1 h2
  · rcases get_snoc hx with hx' | ⟨rfl, rfl⟩
    · have hi := (List.getElem?_eq_some_iff.1 hx').1
      have := h.each i x e hx' he
      have hne : ¬ i = r.length := by omega
      simp only [hne, if_false]
      refine ⟨this.1, (this.2.below hb).touch ht fun k hk e' => ?_⟩
      have := h.low i k hk
      omega
    · rw [hd] at he
      cases he
      simp only [if_true]
      refine ⟨⟨rfl, rfl, rfl⟩, hO.touch ht fun k hk e' => ?_⟩
      have := hF k hk
      omega
theorem FillV.done {g n B : Nat} {l : List DVersion} {r : List RawV} {G : Nat → Nat → Prop} {w : World} (h : FillV g n l r G w) (hr : r.length = n) (hl : l.length = n) (hB : B ≤ g) :
    ∃ F : Nat → Prop, (∀ k, F k → B ≤ k ∧ k < w.heap.size) ∧ OVer F w (some ⟨g, 0, none⟩) n n l := by
  have hg := (h.own.lt g rfl).2
  have ho := h.own
  rw [show n - r.length = 0 by omega, List.replicate_zero, List.append_nil] at ho
  obtain ⟨F0, hF0, hO⟩ := OL.of_own (E := rawVE) ho hr
  have hF0g : OL rawVE 45 (fun k => k = g) w (some ⟨g, 0, none⟩) n n r := ⟨hO.1, hO.2.1, fun k hk => by cases hk; rfl⟩
  refine ⟨fun k => g ≤ k ∧ k < w.heap.size, fun k hk => ⟨by omega, hk.2⟩, r, _, G, hF0g, hl, fun k hk => ?_, fun i k hk => ?_, h.apart, h.each⟩
  · subst hk
    omega
  · have := h.low i k hk
    omega
set_option maxHeartbeats 1000000 in
theorem l_toVersionS (A : Option Addr) (n c : Nat) (l : List DVersion) (w : World) (hr : RdVersion w A n l) (hn : n ≤ 1048576) (hs : sumVersion l ≤ 1048576) :
    Calls Try.prog 6 #[.slice A n c] w fun e w' => ∃ A' c' F, e = .returned (.slice A' n c') ∧ (∀ k, F k → w.heap.size ≤ k ∧ k < w'.heap.size) ∧ OVer F w' A' n c' l ∧ Below w.heap.size w w' := by
  have Hl := Lib.hid hr.len
  obtain ⟨i0, hi, hz0, hz1, hz2⟩ := info_parts Try.info_Version
  have hmk := fun W => run_make_rows (P := Try.prog) 24 45 i0 _ Try.underlying24 hi hz0 hz1 .i64 .i64 n (by rw [hz2]; omega) (by omega) W
  clear hi hz0 hz1 hz2
  have HS := Lib.hid hs
  go_enter Try.func6, Try.ntmps6
  go_wp2_with fail
  clear hmk
  go_loopw [4] (fun i wr => ∃ (r : List RawV) (G : Nat → Nat → Prop), r.length ≤ n ∧ i = .int .i64 r.length ∧ FillV w.heap.size n l r G wr ∧ Below w.heap.size w wr) (fun i _ => n - (intOf i).toNat)
  case atStart => exact ⟨[], fun _ _ => False, Nat.zero_le _, rfl, ⟨by
    have h := World.ownsRow_lit (base := w.heap.size) (e := 45) (size := rawVE.k) w (madeCells #[.int .i64 0, .int .i64 0, .string ⟨#[]⟩, .slice none 0 0] (n * rawVE.k)) n (Nat.le_refl _) (by unfold maxLen; omega) (by rw [size_madeCells])
    rw [toList_madeCells rawVE (z := #[.int .i64 0, .int .i64 0, .string ⟨#[]⟩, .slice none 0 0]) (x := RawV.zero) rfl] at h
    exact h, fun _ _ h => h.elim, fun _ _ _ _ h => h.elim, fun i x d h => by simp at h⟩, by (repeat (first | exact Below.refl _ _ | assumption | refine Below.drew ?_ | refine Below.alloc ?_ (by first | omega | (simp; done) | (simp; omega) | exact Below.size (by assumption)) _ | refine Below.setCell ?_ (by first | omega | (simp; done) | (simp; omega)) _))⟩
  case round =>
    obtain ⟨r, G, hk, rfl, hp, hb⟩ := hrel
    by_cases hkn : r.length < n
    · obtain ⟨b, off, x, A', n', c', rfl, hks, hc, hru⟩ := hr.get hkn
      have hc0 := range_below (B := 0) hc hb 0 _ rfl
      have hc1 := range_below (B := 0) hc hb 1 _ rfl
      have hc2 := range_below (B := 0) hc hb 2 _ rfl
      have hc3 := range_below (B := 0) hc hb 3 _ rfl
      simp only [Nat.add_zero] at hc0 hc1 hc2 hc3
      have hu := Lib.hid (state_le (mem_of_get hks) HS.out)
      have HK := Lib.hid hks; clear hks hc
      have hru' := Lib.hid (hru.below hb)
      have hl' := Lib.hid hru.1
      clear hru
      go_wp2_with fail
      refine (l_toVersion x A' n' c' _ hru'.out (by have := hu.out; have := hl'.out; omega)).mono ?_
      rintro e w1 ⟨A1, c1, F, rfl, hF, hO, hb1⟩
      have ho := own_below hp.own hb1
      obtain ⟨u0, hu0⟩ := own_cell ho (j := r.length * 4) (by omega)
      have hf0 := ho.frozenAt (r.length * 4)
      obtain ⟨u1, hu1⟩ := own_cell ho (j := r.length * 4 + 1) (by omega)
      have hf1 := ho.frozenAt (r.length * 4 + 1)
      obtain ⟨u2, hu2⟩ := own_cell ho (j := r.length * 4 + 2) (by omega)
      have hf2 := ho.frozenAt (r.length * 4 + 2)
      obtain ⟨u3, hu3⟩ := own_cell ho (j := r.length * 4 + 3) (by omega)
      have hf3 := ho.frozenAt (r.length * 4 + 3)
      have HP := Lib.hid (hp.step hkn HK.out hF hO hb1)
      have hb2 := below_setCells (Nat.le_refl w.heap.size) [.int .i64 x.fNumber, .int .i64 x.fParent, .string x.fMemo, .slice A1 n' c1] (r.length * 4) (hb.trans (hb1.mono hb.size))
      clear hc0 hc1 hc2 hc3 ho hF hO
      go_wp2
      first | (refine ⟨⟨r ++ [⟨x.fNumber, x.fParent, x.fMemo, A1, n', c1⟩], _, by simp; omega, by simp, HP.out, hb2⟩, ?_⟩; (simp [intOf]; omega)) | (go_roundw; (case rel => first | exact ⟨r ++ [⟨x.fNumber, x.fParent, x.fMemo, A1, n', c1⟩], _, by simp; omega, by simp, HP.out, hb2⟩ | ((try refine ⟨trivial, ?_⟩); (repeat apply Exists.intro); exact ⟨⟨r ++ [⟨x.fNumber, x.fParent, x.fMemo, A1, n', c1⟩], _, by simp; omega, by simp, HP.out, hb2⟩, rfl⟩)); (case measure => (simp [intOf]; omega)))
    · go_wp2
      go_ret
      obtain ⟨F, hF, hO⟩ := hp.done (by omega) Hl.out (Nat.le_refl _)
      exact ⟨_, _, F, rfl, hF, hO, hb⟩

set_option maxHeartbeats 400000 in
theorem l_eqVersion (x : DVersion) (A A' : Option Addr) (n c c' : Nat) (w : World) (hr : Rd settingE w A n x.fState) (hr' : Rd settingE w A' n x.fState) (hn : n ≤ maxLen) :
    Calls Try.prog 27 #[.agg #[.int .i64 x.fNumber, .int .i64 x.fParent, .string x.fMemo, .slice A n c], .agg #[.int .i64 x.fNumber, .int .i64 x.fParent, .string x.fMemo, .slice A' n c']] w (RetB true w) := by
  have h1 : Below w.heap.size w (w.alloc (.cells #[.int .i64 x.fNumber, .int .i64 x.fParent, .string x.fMemo, .slice A n c] 45)) := (Below.refl _ _).alloc (Nat.le_refl _) _
  have h2 := h1.alloc h1.size (.cells #[.int .i64 x.fNumber, .int .i64 x.fParent, .string x.fMemo, .slice A' n c'] 45)
  go_enter Try.func27, Try.ntmps27
  go_wp2_with fail
  refine (l_eqSettingS A A' n c c' x.fState _ (hr.below h2) (hr'.below h2) hn).mono ?_
  rintro e w1 ⟨rfl, hb⟩
  have hB := h2.trans (hb.mono h2.size)
  go_wp2
  go_ret
  exact ⟨rfl, hB⟩

set_option maxRecDepth 100000 in
set_option maxHeartbeats 1000000 in
theorem l_eqVersionS (A A' : Option Addr) (n c c' : Nat) (l : List DVersion) (w : World) (hr : RdVersion w A n l) (hr' : RdVersion w A' n l) (hn : n ≤ maxLen) (hg : ∀ x ∈ l, x.fState.length ≤ maxLen) :
    Calls Try.prog 8 #[.slice A n c, .slice A' n c'] w (RetB true w) := by
  unfold maxLen at hn
  have HG := Lib.hid hg; clear hg
  go_enter Try.func8, Try.ntmps8
  go_wp2
  go_loopw [5] (fun i wr => ∃ k : Nat, k ≤ n ∧ i = .int .i64 k ∧ Below w.heap.size w wr) (fun i _ => n - (intOf i).toNat)
  case atStart => exact ⟨0, Nat.zero_le _, rfl, by (repeat (first | exact Below.refl _ _ | assumption | refine Below.drew ?_ | refine Below.alloc ?_ (by first | omega | (simp; done) | (simp; omega) | exact Below.size (by assumption)) _ | refine Below.setCell ?_ (by first | omega | (simp; done) | (simp; omega)) _))⟩
  case round =>
    obtain ⟨k, hk, rfl, hb⟩ := hrel
    by_cases hkn : k < n
    · obtain ⟨b, off, x, A1, n1, c1, rfl, hks, hc, hru⟩ := hr.get hkn
      obtain ⟨b', off', x', A2, n2, c2, rfl, hks', hc', hru'⟩ := hr'.get hkn
      obtain rfl : x = x' := Option.some.inj (hks.symm.trans hks')
      obtain rfl : n1 = n2 := hru.1.symm.trans hru'.1
      have hc0 := range_below (B := 0) hc hb 0 _ rfl
      have hc1 := range_below (B := 0) hc hb 1 _ rfl
      have hc2 := range_below (B := 0) hc hb 2 _ rfl
      have hc3 := range_below (B := 0) hc hb 3 _ rfl
      have hd0 := range_below (B := 0) hc' hb 0 _ rfl
      have hd1 := range_below (B := 0) hc' hb 1 _ rfl
      have hd2 := range_below (B := 0) hc' hb 2 _ rfl
      have hd3 := range_below (B := 0) hc' hb 3 _ rfl
      simp only [Nat.add_zero] at hc0 hc1 hc2 hc3 hd0 hd1 hd2 hd3
      have hq1 := hru.below hb.drew
      have hq2 := hru'.below hb.drew
      have hm : n1 ≤ maxLen := by rw [← hru.1]; exact HG.out x (mem_of_get hks)
      clear hc hc' hks hks' hru hru'
      go_wp2_with fail
      go_still_tail 8, (by kernel_rfl)
      change wpList _ _ _ _ _ wr.drew
      go_wp2_with fail
      refine (l_eqVersion x A1 A2 n1 c1 c2 _ hq1 hq2 hm).mono ?_
      rintro e w1 ⟨rfl, hb1⟩
      have hb2 := hb.drew.trans (hb1.mono hb.size)
      go_wp2
      first | (refine ⟨⟨k + 1, by omega, by go_num, hb2⟩, ?_⟩; (simp [intOf]; omega)) | (go_roundw; (case rel => first | exact ⟨k + 1, by omega, by go_num, hb2⟩ | ((try refine ⟨trivial, ?_⟩); (repeat apply Exists.intro); exact ⟨⟨k + 1, by omega, by go_num, hb2⟩, rfl⟩)); (case measure => (simp [intOf]; omega)))
    · go_wp2
      go_ret
      exact ⟨rfl, hb⟩

def mvOne (m : Nat) (d : DVersion) : DVersion := ⟨(m : Int), ((m + 1 : Nat) : Int), mt (m + 2), markLSetting d.fState.length (m + 3)⟩
def cntV : List DVersion → Nat
  | [] => 0
  | x :: r => 3 + 2 * x.fState.length + cntV r
def markLV : List DVersion → Nat → List DVersion
  | [], _ => []
  | x :: r, m => mvOne m x :: markLV r (m + (3 + 2 * x.fState.length))
theorem markLV_len : ∀ (l : List DVersion) (m : Nat), (markLV l m).length = l.length
  | [], _ => rfl
  | x :: r, m => by rw [markLV, List.length_cons, List.length_cons, markLV_len r]
theorem cntV_take {l : List DVersion} {k : Nat} {d : DVersion} (h : l[k]? = some d) : cntV (l.take (k + 1)) = cntV (l.take k) + (3 + 2 * d.fState.length) := by
  induction l generalizing k with
  | nil => simp at h
  | cons x r ih =>
    cases k with
    | zero => simp at h; subst h; simp [cntV]
    | succ k =>
      have := ih (by simpa using h)
      rw [List.take_succ_cons, List.take_succ_cons, cntV, cntV, this]
      omega
theorem cntV_le (l : List DVersion) (k : Nat) : cntV (l.take k) ≤ cntV l := by
  induction l generalizing k with
  | nil => simp
  | cons x r ih =>
    cases k with
    | zero => simp [cntV]
    | succ k => rw [List.take_succ_cons, cntV, cntV]; have := ih k; omega
theorem markLV_get : ∀ {l : List DVersion} {m k : Nat} {d : DVersion}, l[k]? = some d → (markLV l m)[k]? = some (mvOne (m + cntV (l.take k)) d)
  | [], _, _, _, h => by simp at h
  | x :: r, m, 0, d, h => by
    simp at h
    subst h
    simp [markLV, cntV]
  | x :: r, m, k + 1, d, h => by
    have := markLV_get (l := r) (m := m + (3 + 2 * x.fState.length)) (k := k) (d := d) (by simpa using h)
    rw [markLV, List.getElem?_cons_succ, this, List.take_succ_cons, cntV]
    congr 2
    omega
def markToV (l : List DVersion) (m k : Nat) : List DVersion := (markLV l m).take k ++ l.drop k
theorem markToV_zero (l : List DVersion) (m : Nat) : markToV l m 0 = l := by simp [markToV]
theorem markToV_all (l : List DVersion) (m k : Nat) (h : l.length ≤ k) : markToV l m k = markLV l m := by
  unfold markToV
  rw [List.take_of_length_le (by rw [markLV_len]; exact h), List.drop_of_length_le h, List.append_nil]
theorem markToV_at {l : List DVersion} {m k : Nat} {d : DVersion} (h : l[k]? = some d) : (markToV l m k)[k]? = some d := by
  have hk := (List.getElem?_eq_some_iff.1 h).1
  unfold markToV
  rw [List.getElem?_append_right (by rw [List.length_take]; omega), List.length_take, markLV_len, Nat.min_eq_left (by omega), Nat.sub_self, List.getElem?_drop, Nat.add_zero, h]
theorem markToV_set {l : List DVersion} {m k : Nat} {d : DVersion} (h : l[k]? = some d) : (markToV l m k).set k (mvOne (m + cntV (l.take k)) d) = markToV l m (k + 1) := by
  have hk := (List.getElem?_eq_some_iff.1 h).1
  have hl : ((markLV l m).take k).length = k := by rw [List.length_take, markLV_len]; omega
  unfold markToV
  rw [drop_of_get h, List.set_append_right _ _ (by omega), hl, Nat.sub_self, List.set_cons_zero, take_of_get (markLV_get (m := m) h), List.append_assoc]
  rfl
theorem rawV_set3 {x : RawV} (u p : Int) (T : ByteArray) : ∀ {r : List RawV} {k : Nat}, r[k]? = some x → (((r.flatMap rawVE.cells).set (k * 4) (.int .i64 u)).set (k * 4 + 1) (.int .i64 p)).set (k * 4 + 2) (.string T) = (r.set k ⟨u, p, T, x.A, x.n, x.c⟩).flatMap rawVE.cells
  | [], k, h => by simp at h
  | y :: r, 0, h => by
    simp only [List.getElem?_cons_zero, Option.some.injEq] at h
    subst h
    rfl
  | y :: r, k + 1, h => by
    simp only [List.getElem?_cons_succ] at h
    rw [List.set_cons_succ, List.flatMap_cons, List.flatMap_cons, ← rawV_set3 u p T h, show (k + 1) * 4 = k * 4 + 1 + 1 + 1 + 1 by omega]
    rfl
theorem OVer.marked {F0 F : Nat → Prop} {G : Nat → Nat → Prop} {w w1 w2 : World} {g n c k : Nat} {l : List DVersion} {r : List RawV} {x : RawV} {d : DVersion} {u p : Int} {T : ByteArray} {ss : List DSetting}
    (h2 : l.length = n) (h3 : ∀ k, F0 k → F k) (h4 : ∀ i k, G i k → F k ∧ ¬ F0 k) (h5 : ∀ i j k, i ≠ j → G i k → ¬ G j k)
    (h6 : ∀ (i : Nat) x d, r[i]? = some x → l[i]? = some d → x.of d ∧ OL settingE 56 (G i) w x.A x.n x.c d.fState) (hx : r[k]? = some x) (hd : l[k]? = some d)
    (h1 : OL rawVE 45 F0 w1 (some ⟨g, 0, none⟩) n c (r.set k ⟨u, p, T, x.A, x.n, x.c⟩)) (hS : Touch F0 w w1)
    (hO : OL settingE 56 (G k) w2 x.A x.n x.c ss) (ht : Touch (G k) w1 w2) :
    OVer F w2 (some ⟨g, 0, none⟩) n c (l.set k ⟨u, p, T, ss⟩) ∧ Touch F w w2 := by
  refine ⟨⟨r.set k ⟨u, p, T, x.A, x.n, x.c⟩, F0, G, h1.touch ht fun k' hk' h8 => (h4 k k' h8).2 hk', by simpa using h2, h3, h4, h5, fun i y e hy he => ?_⟩, ?_⟩
  · rw [List.getElem?_set] at hy he
    by_cases e' : k = i
    · subst e'
      rw [if_pos rfl, if_pos (List.getElem?_eq_some_iff.1 hx).1] at hy
      rw [if_pos rfl, if_pos (List.getElem?_eq_some_iff.1 hd).1] at he
      cases hy
      cases he
      exact ⟨⟨rfl, rfl, rfl⟩, hO⟩
    · rw [if_neg e'] at hy he
      have h7 := h6 i y e hy he
      exact ⟨h7.1, (h7.2.touch hS fun k' hk' => (h4 i k' hk').2).touch ht fun k' hk' h8 => h5 i k k' (fun e => e' e.symm) hk' h8⟩
  · exact (hS.mono h3).trans (ht.mono fun k' hk' => (h4 k k' hk').1)
theorem OL.placeV {α : Type} {E : Enc α} {et : TypeId} {F : Nat → Prop} {w : World} {A : Option Addr} {n c : Nat} {l : List α} (h : OL E et F w A n c l) (hn : 0 < n) : ∃ g, A = some ⟨g, 0, none⟩ := by
  rcases h.1.2 with ⟨e, h0⟩ | ⟨g, cap, cur, e, _⟩
  · cases e; omega
  · cases e; exact ⟨_, rfl⟩
set_option maxHeartbeats 4000000 in
theorem l_markVersionS (F : Nat → Prop) (A : Option Addr) (n c : Nat) (l : List DVersion) (m : Nat) (w : World) (hO : OVer F w A n c l) (hn : n ≤ 1048576) (hm : m ≤ 1048576) (hs : cntV l ≤ 8388608) :
    Calls Try.prog 9 #[.slice A n c, .int .i64 m] w fun e w' => e = .returned (.int .i64 ((m + cntV l : Nat) : Int)) ∧ OVer F w' A n c (markLV l m) ∧ Touch F w w' := by
  have HL : Hid (l.length = n) := Lib.hid (hO.elim fun _ h => h.elim fun _ h => h.elim fun _ h => h.2.1)
  have HS := Lib.hid hs
  go_enter Try.func9, Try.ntmps9
  go_wp2_with fail
  go_loopw [1, 5] (fun t i wr => ∃ (k q : Nat) (l' : List DVersion), k ≤ n ∧ i = .int .i64 k ∧ t = .int .i64 q ∧ OVer F wr A n c l' ∧ Touch F w wr ∧ q ≤ 16777216 ∧ Hid (q = m + cntV (l.take k) ∧ l' = markToV l m k)) (fun _ i _ => n - (intOf i).toNat)
  case atStart => exact ⟨0, m, l, Nat.zero_le _, rfl, rfl, hO, Touch.refl F w, by omega, Lib.hid ⟨by simp [cntV], (markToV_zero l m).symm⟩⟩
  case round =>
    obtain ⟨k, q, l', hk, rfl, rfl, hp, ht, hq0, HH⟩ := hrel
    by_cases hkn : k < n
    · obtain ⟨r, F0, G, g1, g2, g3, g4, g5, g6⟩ := hp
      obtain ⟨x, hx⟩ : ∃ x, r[k]? = some x := ⟨_, List.getElem?_eq_getElem (by have := g1.2.1; omega)⟩
      obtain ⟨d, hd0⟩ : ∃ d, l[k]? = some d := ⟨_, List.getElem?_eq_getElem (by have := HL.out; omega)⟩
      have hd : l'[k]? = some d := by rw [HH.out.2]; exact markToV_at hd0
      obtain ⟨hxs, hu⟩ := g6 k x d hx hd
      obtain ⟨b, rfl⟩ := g1.placeV (by omega)
      have HX := Lib.hid hx
      have HD := Lib.hid hd
      have HQ : Hid (q + (3 + 2 * d.fState.length) = m + cntV (l.take (k + 1))) := Lib.hid (by rw [cntV_take hd0, HH.out.1]; omega)
      have HN : Hid (l'.set k (mvOne q d) = markToV l m (k + 1)) := Lib.hid (by rw [HH.out.2, HH.out.1]; exact markToV_set hd0)
      have hbq : q + 3 + 2 * x.n ≤ 16777216 := by have := HQ.out; have := cntV_le l (k + 1); have := HS.out; have := hu.2.1; omega
      have HU := Lib.hid hu
      have hlx : Hid (d.fState.length = x.n) := Lib.hid hu.2.1
      have ho := g1.1
      simp only [rawVE] at ho
      clear hd hd0 hx hxs hu
      obtain ⟨u0, hu0⟩ := own_cell ho (j := k * 4) (by omega)
      have hf0 := ho.frozenAt (k * 4)
      have ho1 := (ho.stored (k * 4) (.int .i64 (q : Int))).1
      obtain ⟨u1, hu1⟩ := own_cell ho1 (j := k * 4 + 1) (by omega)
      have hf1 := ho1.frozenAt (k * 4 + 1)
      have ho2 := (ho1.stored (k * 4 + 1) (.int .i64 ((q : Int) + 1))).1
      clear ho ho1
      go_wp2_with fail
      refine (l_markText_at _ _ (by omega) (by omega)).mono ?_
      rintro e w1 ⟨T0, rfl, HT0, hb0⟩
      have ho3 := own_below ho2 hb0
      obtain ⟨u2, hu2⟩ := own_cell ho3 (j := k * 4 + 2) (by omega)
      have hf2 := ho3.frozenAt (k * 4 + 2)
      have ho4 := (ho3.stored (k * 4 + 2) (.string T0)).1
      have hS : Touch F0 wr (w1.setCell ⟨b, k * 4 + 2, none⟩ (.string T0)) :=
        (((Touch.setCell (F := F0) (w := wr) (p := ⟨b, k * 4, none⟩) (g1.2.2 b rfl) (.int .i64 (q : Int))).trans (Touch.setCell (F := F0) (p := ⟨b, k * 4 + 1, none⟩) (g1.2.2 b rfl) (.int .i64 ((q : Int) + 1)))).trans (Touch.of_below hb0)).trans (Touch.setCell (F := F0) (p := ⟨b, k * 4 + 2, none⟩) (g1.2.2 b rfl) (.string T0))
      have hO4 : OL rawVE 45 F0 (w1.setCell ⟨b, k * 4 + 2, none⟩ (.string T0)) (some ⟨b, 0, none⟩) n c (r.set k ⟨(q : Int), (q : Int) + 1, T0, x.A, x.n, x.c⟩) :=
        ⟨by rw [← rawV_set3 _ _ _ HX.out]; exact ho4, by simpa using g1.2.1, g1.2.2⟩
      obtain ⟨b', off, y, hA, hy, hcy⟩ := hO4.rd.get hkn
      rw [List.getElem?_set, if_pos rfl, if_pos (List.getElem?_eq_some_iff.1 HX.out).1] at hy
      cases hy
      cases hA
      have hc3 := hcy 3 _ rfl
      simp only [rawVE, Nat.zero_add] at hc3
      have hu3 := HU.out.touch hS fun k' hk' => (g4 k k' hk').2
      have HO4 := Lib.hid hO4
      have HSS := Lib.hid hS
      clear ho2 ho3 ho4 hcy hO4 hS
      go_wp2_with fail
      refine (l_markSettingS (G k) x.A x.n x.c d.fState ((q : Int) + 1 + 1 + 1) _ hu3 (by omega) (by omega) (by omega)).mono ?_
      rintro e w2 ⟨rfl, hO2, ht2⟩
      obtain ⟨hp2, ht3⟩ := OVer.marked g2 g3 g4 g5 g6 HX.out HD.out HO4.out HSS.out hO2 ht2
      have HN2 : Hid (l'.set k ⟨(q : Int), (q : Int) + 1, T0, markLSetting x.n ((q : Int) + 1 + 1 + 1).toNat⟩ = markToV l m (k + 1)) := Lib.hid (by
        rw [← HN.out]
        congr 1
        unfold mvOne
        have e1 : T0 = mt (q + 2) := HT0.out.trans (congrArg mt (by omega))
        rw [e1, hlx.out, show ((q : Int) + 1 + 1 + 1).toNat = q + 3 by omega, show ((q + 1 : Nat) : Int) = (q : Int) + 1 by omega])
      rw [HN2.out] at hp2
      have HF : Hid (q + 3 + 2 * x.n = m + cntV (l.take (k + 1))) := Lib.hid (by have := HQ.out; have := hlx.out; omega)
      have htN := ht.trans ht3
      clear hu0 hu1 hu2 hf0 hf1 hf2 hc3 hu3 hO2 ht2 ht3
      go_wp2
      first | (refine ⟨⟨k + 1, q + 3 + 2 * x.n, _, by omega, by go_num, by go_num, hp2, htN, hbq, Lib.hid ⟨HF.out, rfl⟩⟩, ?_⟩; (simp [intOf]; omega)) | (go_roundw; (case rel => first | exact ⟨k + 1, q + 3 + 2 * x.n, _, by omega, by go_num, by go_num, hp2, htN, hbq, Lib.hid ⟨HF.out, rfl⟩⟩ | ((try refine ⟨trivial, ?_⟩); (repeat apply Exists.intro); exact ⟨⟨k + 1, q + 3 + 2 * x.n, _, by omega, by go_num, by go_num, hp2, htN, hbq, Lib.hid ⟨HF.out, rfl⟩⟩, rfl⟩)); (case measure => (simp [intOf]; omega)))
    · go_wp2
      go_ret
      obtain rfl : k = n := by omega
      have e1 := HH.out
      rw [List.take_of_length_le (by rw [HL.out]; exact Nat.le_refl _)] at e1
      rw [← e1.1]
      refine ⟨rfl, ?_, ht⟩
      rw [← markToV_all l m k (by rw [HL.out]; exact Nat.le_refl _), ← e1.2]
      exact hp

set_option maxHeartbeats 4000000 in
theorem l_heldVersionS (F : Nat → Prop) (A : Option Addr) (n c : Nat) (l : List DVersion) (m : Nat) (w : World) (hO : OVer F w A n c (markLV l m)) (hn : n ≤ 1048576) (hm : m ≤ 1048576) (hs : cntV l ≤ 8388608) :
    Calls Try.prog 10 #[.slice A n c, .int .i64 m] w (HeldR ((m + cntV l : Nat) : Int) w) := by
  obtain ⟨r, F0, G, g1, g2, g3, g4, g5, g6⟩ := hO
  have HL : Hid (l.length = n) := Lib.hid (by rw [← g2, markLV_len])
  have HS := Lib.hid hs
  go_enter Try.func10, Try.ntmps10
  go_wp2_with fail
  go_loopw [1, 5] (fun t i wr => ∃ k q : Nat, k ≤ n ∧ i = .int .i64 k ∧ t = .int .i64 q ∧ Below w.heap.size w wr ∧ q ≤ 16777216 ∧ Hid (q = m + cntV (l.take k))) (fun _ i _ => n - (intOf i).toNat)
  case atStart => exact ⟨0, m, Nat.zero_le _, rfl, rfl, Below.refl _ _, by omega, Lib.hid (by simp [cntV])⟩
  case round =>
    obtain ⟨k, q, hk, rfl, rfl, hb, hq0, HH⟩ := hrel
    by_cases hkn : k < n
    · obtain ⟨x, hx⟩ : ∃ x, r[k]? = some x := ⟨_, List.getElem?_eq_getElem (by have := g1.2.1; omega)⟩
      obtain ⟨d, hd0⟩ : ∃ d, l[k]? = some d := ⟨_, List.getElem?_eq_getElem (by have := HL.out; omega)⟩
      have hd : (markLV l m)[k]? = some (mvOne q d) := by rw [HH.out]; exact markLV_get hd0
      obtain ⟨⟨e1, e2, e3⟩, hu⟩ := g6 k x _ hx hd
      obtain ⟨b, rfl⟩ := g1.placeV (by omega)
      obtain ⟨b', off, y, hA, hy, hcy⟩ := g1.rd.get hkn
      rw [hx] at hy
      cases hy
      cases hA
      have HC := Lib.hid hcy
      have HQ : Hid (q + (3 + 2 * d.fState.length) = m + cntV (l.take (k + 1))) := Lib.hid (by rw [cntV_take hd0, HH.out]; omega)
      have hlx : Hid (d.fState.length = x.n) := Lib.hid (by have := hu.2.1; unfold mvOne at this; rwa [markLSetting_len] at this)
      have hbq : q + 3 + 2 * x.n ≤ 16777216 := by have := HQ.out; have := cntV_le l (k + 1); have := HS.out; have := hlx.out; omega
      have HU : Hid (OL settingE 56 (G k) w x.A x.n x.c (markLSetting x.n ((q : Int) + 1 + 1 + 1).toNat)) := Lib.hid (by
        unfold mvOne at hu
        rw [hlx.out] at hu
        rw [show ((q : Int) + 1 + 1 + 1).toNat = q + 3 by omega]
        exact hu)
      have E1 : Hid (x.u = (q : Int)) := Lib.hid e1
      have E2 : Hid (x.p = (q : Int) + 1) := Lib.hid (by rw [e2]; unfold mvOne; show ((q + 1 : Nat) : Int) = _; omega)
      have E3 : Hid (x.s = mt (q + 2)) := Lib.hid e3
      clear hd hd0 hx hcy e1 e2 e3 hu
      have hc0 := range_below (B := 0) HC.out hb 0 _ rfl
      have hc1 := range_below (B := 0) HC.out hb 1 _ rfl
      have hc2 := range_below (B := 0) HC.out hb 2 _ rfl
      simp only [rawVE, Nat.zero_add, Nat.add_zero] at hc0 hc1 hc2
      rw [E1.out] at hc0
      rw [E2.out] at hc1
      rw [E3.out] at hc2
      have HM0 : Hid (∀ W, Calls Try.prog 28 #[.int .i64 ((q : Int) + 1 + 1)] W fun e w' => e = .returned (.string (mt (q + 2))) ∧ Below W.heap.size W w') := Lib.hid (by
        intro W
        have := l_markText (q + 2) W (by omega)
        rw [show ((q + 2 : Nat) : Int) = (q : Int) + 1 + 1 from by omega] at this
        exact this)
      go_wp2_with fail
      go_region_held3 (fun w' => w'.cell? ⟨b, k * 4 + 2, none⟩ = some (.string (mt (q + 2))) ∧ Below w.heap.size w w') (first | exact ⟨hc2, hb.drew⟩ | (go_split_ands; exact ⟨cell_later hbm (by assumption), Below.trans (by assumption) (hbm.mono (Below.size (by assumption)))⟩) | (go_split_ands; exact ⟨by assumption, by assumption⟩))
        (first | (go_at_call 28; refine (HM0.out _).mono ?_; rintro e w0 ⟨rfl, hbm⟩))
      rename_i hh
      obtain ⟨_, hb0⟩ := hh
      clear hbm hc0 hc1 hc2
      have hc3 := range_below (B := 0) HC.out hb0 3 _ rfl
      simp only [rawVE, Nat.zero_add] at hc3
      have hu3 := HU.out.below hb0
      have hne : ¬ (q : Int) + 1 + 1 + 1 + 2 * (x.n : Int) < 0 := by omega
      have HF : Hid (q + 3 + 2 * x.n = m + cntV (l.take (k + 1))) := Lib.hid (by have := HQ.out; have := hlx.out; omega)
      go_wp2_with fail
      refine (l_heldSettingS (G k) x.A x.n x.c ((q : Int) + 1 + 1 + 1) _ hu3 (by omega) (by omega) (by omega)).mono ?_
      rintro e w2 ⟨rfl, hb2⟩
      have hbN := hb0.trans (hb2.mono hb0.size)
      clear hc3 hu3
      go_wp2
      first | (refine ⟨⟨k + 1, q + 3 + 2 * x.n, by omega, by go_num, by go_num, hbN, hbq, HF⟩, ?_⟩; (simp [intOf]; omega)) | (go_roundw; (case rel => first | exact ⟨k + 1, q + 3 + 2 * x.n, by omega, by go_num, by go_num, hbN, hbq, HF⟩ | ((try refine ⟨trivial, ?_⟩); (repeat apply Exists.intro); exact ⟨⟨k + 1, q + 3 + 2 * x.n, by omega, by go_num, by go_num, hbN, hbq, HF⟩, rfl⟩)); (case measure => (simp [intOf]; omega)))
    · go_wp2
      go_ret
      obtain rfl : k = n := by omega
      have e1 := HH.out
      rw [List.take_of_length_le (by rw [HL.out]; exact Nat.le_refl _)] at e1
      rw [← e1]
      exact ⟨rfl, hb⟩

end Go.Proofs.Ytfabijhilfjkcaa

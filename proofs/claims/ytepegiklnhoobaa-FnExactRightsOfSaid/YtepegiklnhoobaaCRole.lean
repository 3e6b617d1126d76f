/- Role: how one lies (a name and a list of names in memory of its own), and the law files' helpers on it. -/
import Derived.Test.YtepegiklnhoobaaRows
import Derived.Test.YtepegiklnhoobaaMem
import Derived.Test.YtepegiklnhoobaaLaw
import Derived.Test.YtepegiklnhoobaaConvS
import Derived.Test.YtepegiklnhoobaaMarks
import Derived.Test.YtepegiklnhoobaaNest
import Derived.Test.YtepegiklnhoobaaResG
import Derived.Test.YtepegiklnhoobaaReach
import Derived.StillTailTactics
namespace Go.Proofs.Ytepegiklnhoobaa
set_option linter.unusedVariables false
set_option linter.unusedSimpArgs false
set_option linter.unusedSectionVars false
open Go.RowKit

def DRole.good (x : DRole) : Prop := x.name.size ≤ maxLen ∧ x.under.length ≤ maxLen ∧ ∀ s ∈ x.under, s.size ≤ maxLen
def DRole.sz (x : DRole) : Int := x.name.size + (sumS x.under + x.under.length)
def sumRole : List DRole → Int
  | [] => 0
  | x :: r => x.sz + sumRole r
theorem DRole.sz_nonneg (x : DRole) : 0 ≤ x.sz := by have := sumS_nonneg x.under; unfold DRole.sz; omega
theorem sumRole_nonneg (l : List DRole) : 0 ≤ sumRole l := by
  induction l with
  | nil => simp [sumRole]
  | cons s r ih => have := s.sz_nonneg; simp only [sumRole]; omega
theorem sumRole_mem {l : List DRole} {x : DRole} (h : x ∈ l) : x.sz ≤ sumRole l := by
  induction l with
  | nil => cases h
  | cons y r ih =>
    have h0 := sumRole_nonneg r
    have h1 := y.sz_nonneg
    simp only [sumRole]
    cases List.mem_cons.1 h with
    | inl e => subst e; omega
    | inr e => have := ih e; omega
theorem under_le {l : List DRole} {x : DRole} (h : x ∈ l) (hs : sumRole l ≤ 1048576) : x.under.length ≤ 1048576 := by
  have h1 := sumRole_mem h
  have h2 := sumS_nonneg x.under
  unfold DRole.sz at h1
  omega

/-- The slice '.slice A n _' reads as the list l of roles. -/
def RdRole (w : World) (A : Option Addr) (n : Nat) (l : List DRole) : Prop :=
  ∃ r : List Raw, Rd rawE w A n r ∧ l.length = n ∧ ∀ (k : Nat) x d, r[k]? = some x → l[k]? = some d → x.s = d.name ∧ Rd strE w x.A x.n d.under
section
variable {w w' : World} {A : Option Addr} {n c : Nat} {l : List DRole}
theorem RdRole.len (h : RdRole w A n l) : l.length = n := h.elim fun _ h => h.2.1
theorem RdRole.below (h : RdRole w A n l) (hb : Below w.heap.size w w') : RdRole w' A n l := by
  obtain ⟨r, h1, h2, h3⟩ := h
  exact ⟨r, h1.below hb, h2, fun k x d hx hd => ⟨(h3 k x d hx hd).1, (h3 k x d hx hd).2.below hb⟩⟩
theorem RdRole.get (h : RdRole w A n l) {k : Nat} (hk : k < n) : ∃ b off d A' n' c', A = some ⟨b, off, none⟩ ∧ l[k]? = some d ∧ w.rangeAt b (off + k * 2) [.string d.name, .slice A' n' c'] ∧ Rd strE w A' n' d.under := by
  obtain ⟨r, h1, h2, h3⟩ := h
  obtain ⟨b, off, x, rfl, hx, hc⟩ := h1.get hk
  obtain ⟨d, hd⟩ : ∃ d, l[k]? = some d := ⟨_, List.getElem?_eq_getElem (by omega)⟩
  obtain ⟨e, hr⟩ := h3 k x d hx hd
  refine ⟨b, off, d, x.A, x.n, x.c, rfl, hd, ?_, hr⟩
  rw [← e]
  exact hc
end

/-- An owned list of roles: all its blocks lie in F. -/
def ORole (F : Nat → Prop) (w : World) (A : Option Addr) (n c : Nat) (l : List DRole) : Prop :=
  ∃ (r : List Raw) (F0 : Nat → Prop) (G : Nat → Nat → Prop), OL rawE 70 F0 w A n c r ∧ l.length = n ∧ (∀ k, F0 k → F k) ∧ (∀ i k, G i k → F k ∧ ¬ F0 k) ∧ (∀ i j k, i ≠ j → G i k → ¬ G j k) ∧
    ∀ (i : Nat) x d, r[i]? = some x → l[i]? = some d → x.s = d.name ∧ OL strE 9 (G i) w x.A x.n x.c d.under
section
variable {F H : Nat → Prop} {w w' : World} {A : Option Addr} {n c : Nat} {l : List DRole}
theorem ORole.below (h : ORole F w A n c l) (hb : Below w.heap.size w w') : ORole F w' A n c l := by
  obtain ⟨r, F0, G, h1, h2, h3, h4, h5, h6⟩ := h
  exact ⟨r, F0, G, h1.below hb, h2, h3, h4, h5, fun i x d hx hd => ⟨(h6 i x d hx hd).1, (h6 i x d hx hd).2.below hb⟩⟩
theorem ORole.touch (h : ORole F w A n c l) (ht : Touch H w w') (hd : ∀ k, F k → ¬ H k) : ORole F w' A n c l := by
  obtain ⟨r, F0, G, h1, h2, h3, h4, h5, h6⟩ := h
  exact ⟨r, F0, G, h1.touch ht fun k hk => hd k (h3 k hk), h2, h3, h4, h5, fun i x d hx hd' => ⟨(h6 i x d hx hd').1, (h6 i x d hx hd').2.touch ht fun k hk => hd k (h4 i k hk).1⟩⟩
theorem ORole.rd (h : ORole F w A n c l) : RdRole w A n l := by
  obtain ⟨r, F0, G, h1, h2, _, _, _, h6⟩ := h
  exact ⟨r, h1.rd, h2, fun k x d hx hd => ⟨(h6 k x d hx hd).1, (h6 k x d hx hd).2.rd⟩⟩
theorem ORole.max (h : ORole F w A n c l) : n ≤ maxLen := by
  obtain ⟨r, F0, G, h1, _⟩ := h
  exact h1.max
end

set_option maxRecDepth 100000 in
theorem el_Role {H : Type} {enc : TypeId × Value → H} {w : World} {base : Nat} {spare : Nat → Bool} {held : Bool} (n : Nat) (cs : List Value) (y : DataW H × List MemPlace) (h : DataW.trod enc Try.prog w base spare held n 69 cs = some y) :
    ∃ x : Raw, cs = rawE.cells x ∧ ∃ d : DRole, x.s = d.name ∧ Rd strE w x.A x.n d.under ∧ d.good := by
  obtain ⟨xs, m, _, _, hlen, _, hf⟩ := DataW.trod_struct Try.underlying69 h
  have hlen' : cs.length = 2 := hlen.trans (by kernel_rfl)
  have g0 := hf 0 _ rfl
  have g1 := hf 1 _ rfl
  match cs, hlen' with
  | [c0, c1], _ =>
    have e0 : (([c0, c1].drop 0).take (Try.prog.cellsOf 9)) = [c0] := by rw [show Try.prog.cellsOf 9 = 1 by kernel_rfl]; rfl
    obtain ⟨y0, hy0⟩ : ∃ y, DataW.trod enc Try.prog w base spare held m 9 [c0] = some y := by rw [← e0]; exact ⟨_, g0.trans (List.getElem?_eq_getElem (by simp_all))⟩
    obtain ⟨x0, hx0, _, hz0⟩ := DataW.trod_string Try.underlying9 hy0
    have e1 : (([c0, c1].drop 1).take (Try.prog.cellsOf 29)) = [c1] := by rw [show Try.prog.cellsOf 29 = 1 by kernel_rfl]; rfl
    obtain ⟨y1, hy1⟩ : ∃ y, DataW.trod enc Try.prog w base spare held m 29 [c1] = some y := by rw [← e1]; exact ⟨_, g1.trans (List.getElem?_eq_getElem (by simp_all))⟩
    obtain ⟨A, k, c, l, rfl, hk, hr, hg⟩ := open_rdc strE (fun s => s.size ≤ maxLen) Try.underlying29 (by kernel_rfl) (el_string Try.underlying9) hy1
    simp only [List.cons.injEq, and_true] at hx0
    subst hx0
    exact ⟨⟨x0, A, k, c⟩, rfl, ⟨x0, l⟩, rfl, hr, hz0, by rw [hr.1]; exact hk, hg⟩
theorem RdRole.of_raw {w : World} {A : Option Addr} {n : Nat} {r : List Raw} (h : Rd rawE w A n r) (hg : ∀ x ∈ r, ∃ d : DRole, x.s = d.name ∧ Rd strE w x.A x.n d.under ∧ d.good) : ∃ l : List DRole, RdRole w A n l ∧ ∀ d ∈ l, d.good := by
  have key : ∀ r : List Raw, (∀ x ∈ r, ∃ d : DRole, x.s = d.name ∧ Rd strE w x.A x.n d.under ∧ d.good) → ∃ l : List DRole, l.length = r.length ∧ (∀ (k : Nat) x d, r[k]? = some x → l[k]? = some d → x.s = d.name ∧ Rd strE w x.A x.n d.under) ∧ ∀ d ∈ l, d.good := by
    intro r
    induction r with
    | nil => exact fun _ => ⟨[], rfl, fun k x d h => by simp at h, fun d h => by cases h⟩
    | cons x r ih =>
      intro hg
      obtain ⟨d, h1, h2, h3⟩ := hg x (by simp)
      obtain ⟨l, h4, h5, h6⟩ := ih fun y hy => hg y (by simp [hy])
      refine ⟨d :: l, by simp [h4], fun k y e hy he => ?_, fun e he => ?_⟩
      · cases k with
        | zero =>
          simp only [List.getElem?_cons_zero, Option.some.injEq] at hy he
          subst hy he
          exact ⟨h1, h2⟩
        | succ k =>
          simp only [List.getElem?_cons_succ] at hy he
          exact h5 k y e hy he
      · rcases List.mem_cons.1 he with rfl | he
        · exact h3
        · exact h6 e he
  obtain ⟨l, h1, h2, h3⟩ := key r hg
  exact ⟨l, ⟨r, h, h1.trans h.1, h2⟩, h3⟩

set_option maxHeartbeats 400000 in
theorem l_szRole (x : DRole) (A : Option Addr) (n c : Nat) (left : Int) (w : World) (hr : Rd strE w A n x.under) (hg : x.good) (h0 : 0 ≤ left) (h1 : left ≤ 1048576) :
    Calls Try.prog 53 #[.agg #[.string x.name, .slice A n c], .int .i64 left] w (SzB left x.sz w) := by
  obtain ⟨g0, g1, g2⟩ := hg
  have hn := hr.1
  rw [hn] at g1
  have G2 := Lib.hid g2
  have Hn := Lib.hid hn
  have hs := sumS_nonneg x.under
  unfold maxLen at g0
  have G1 := Lib.hid g1
  clear g2 g1 hn
  by_cases c0 : left - x.name.size < 0
  · go_enter Try.func53, Try.ntmps53
    go_wp2_with fail
    go_ret
    exact SzB.neg (by (repeat (first | exact Below.refl _ _ | assumption | refine Below.drew ?_ | refine Below.alloc ?_ (by first | omega | (simp; done) | (simp; omega) | exact Below.size (by assumption)) _ | refine Below.setCell ?_ (by first | omega | (simp; done) | (simp; omega)) _)))
  · go_enter Try.func53, Try.ntmps53
    go_wp2_with fail
    refine (l_szStringS A n c x.under (left - x.name.size) _ (hr.below (by (repeat (first | exact Below.refl _ _ | assumption | refine Below.drew ?_ | refine Below.alloc ?_ (by first | omega | (simp; done) | (simp; omega) | exact Below.size (by assumption)) _ | refine Below.setCell ?_ (by first | omega | (simp; done) | (simp; omega)) _)))) G1.out G2.out (by omega) (by omega)).mono ?_
    rintro e w1 ⟨r, rfl, rfl, hr0, hr1⟩
    by_cases hneg : r < 0
    · obtain rfl : r = -1 := by omega
      clear hr1
      go_wp2
      go_ret
      exact SzB.neg (by (repeat (first | exact Below.refl _ _ | assumption | refine Below.drew ?_ | refine Below.alloc ?_ (by first | omega | (simp; done) | (simp; omega) | exact Below.size (by assumption)) _ | refine Below.setCell ?_ (by first | omega | (simp; done) | (simp; omega)) _)))
    · have h2 := Lib.hid (hr1 (by omega))
      clear hr1
      go_wp2
      go_ret
      exact SzB.ok (by (repeat (first | exact Below.refl _ _ | assumption | refine Below.drew ?_ | refine Below.alloc ?_ (by first | omega | (simp; done) | (simp; omega) | exact Below.size (by assumption)) _ | refine Below.setCell ?_ (by first | omega | (simp; done) | (simp; omega)) _))) (by omega) (by have := h2.out; have := Hn.out; unfold DRole.sz; omega)

set_option maxHeartbeats 400000 in
theorem l_szRoleS (A : Option Addr) (n c : Nat) (l : List DRole) (left : Int) (w : World) (hr : RdRole w A n l) (hn : n ≤ maxLen)
    (hs : ∀ x ∈ l, x.good) (h0 : 0 ≤ left) (h1 : left ≤ 1048576) :
    Calls Try.prog 14 #[.slice A n c, .int .i64 left] w (SzB left (sumRole l + n) w) := by
  unfold maxLen at hn
  have Hl := Lib.hid hr.len
  have HS := Lib.hid hs; clear hs
  by_cases hlt : left - n < 0
  · go_enter Try.func14, Try.ntmps14
    go_wp2
    go_ret
    exact SzB.neg (by (repeat (first | exact Below.refl _ _ | assumption | refine Below.drew ?_ | refine Below.alloc ?_ (by first | omega | (simp; done) | (simp; omega) | exact Below.size (by assumption)) _ | refine Below.setCell ?_ (by first | omega | (simp; done) | (simp; omega)) _)))
  · go_enter Try.func14, Try.ntmps14
    go_wp2_with fail
    go_loopw [1, 5] (fun t i wr => ∃ (k : Nat) (a : Int), k ≤ n ∧ 0 ≤ a ∧ a ≤ 1048576 ∧ i = .int .i64 k ∧ t = .int .i64 a ∧ Hid (a = left - n - sumRole l + sumRole (l.drop k)) ∧ Below w.heap.size w wr) (fun _ i _ => n - (intOf i).toNat)
    case atStart => exact ⟨0, left - n, by omega, by omega, by omega, rfl, rfl, Lib.hid (by rw [List.drop_zero]; omega), by (repeat (first | exact Below.refl _ _ | assumption | refine Below.drew ?_ | refine Below.alloc ?_ (by first | omega | (simp; done) | (simp; omega) | exact Below.size (by assumption)) _ | refine Below.setCell ?_ (by first | omega | (simp; done) | (simp; omega)) _))⟩
    case round =>
      obtain ⟨k, a, hk, ha0, ha1, rfl, rfl, HH, hb⟩ := hrel
      by_cases hkn : k < n
      · obtain ⟨b, off, x, A', n', c', rfl, hks, hc, hru⟩ := hr.get hkn
        have hc0 := range_below (B := 0) hc hb 0 _ rfl
        have hc1 := range_below (B := 0) hc hb 1 _ rfl
        simp only [Nat.add_zero] at hc0 hc1
        have hx := Lib.hid (HS.out x (mem_of_get hks))
        have HD := Lib.hid (drop_of_get hks); clear hks hc
        have hru' := hru.below hb
        clear hru
        go_wp2_with fail
        refine (l_szRole x A' n' c' a _ hru' hx.out ha0 ha1).mono ?_
        rintro e w1 ⟨r, rfl, hb1, hr0, hr1⟩
        by_cases hneg : r < 0
        · obtain rfl : r = -1 := by omega
          clear hr1
          go_wp2
          go_ret
          exact SzB.neg (hb.trans (hb1.mono hb.size))
        · have h2 := hr1 (by omega)
          have h3 := x.sz_nonneg
          have H2 := Lib.hid h2
          have h4 : r ≤ 1048576 := by omega
          clear h2 h3 hr1
          go_wp2
          first | (refine ⟨⟨k + 1, r, by omega, by omega, by omega, by go_num, by go_num, Lib.hid (by have h5 := HH.out; rw [HD.out, sumRole] at h5; have := H2.out; omega), hb.trans (hb1.mono hb.size)⟩, ?_⟩; (simp [intOf]; omega)) | (go_roundw; (case rel => first | exact ⟨k + 1, r, by omega, by omega, by omega, by go_num, by go_num, Lib.hid (by have h5 := HH.out; rw [HD.out, sumRole] at h5; have := H2.out; omega), hb.trans (hb1.mono hb.size)⟩ | ((try refine ⟨trivial, ?_⟩); (repeat apply Exists.intro); exact ⟨⟨k + 1, r, by omega, by omega, by omega, by go_num, by go_num, Lib.hid (by have h5 := HH.out; rw [HD.out, sumRole] at h5; have := H2.out; omega), hb.trans (hb1.mono hb.size)⟩, rfl⟩)); (case measure => (simp [intOf]; omega)))
      · go_wp2
        go_ret
        have hh := HH.out
        rw [List.drop_of_length_le (by have := Hl.out; omega), sumRole] at hh
        exact SzB.ok hb ha0 (by omega)

/-- a role that has been copied: its list is the call's own -/
def RetRole (x : DRole) (n : Nat) (w : World) (e : Ending) (w' : World) : Prop :=
  ∃ A c F, e = .returned (.agg #[.string x.name, .slice A n c]) ∧ (∀ k, F k → w.heap.size ≤ k ∧ k < w'.heap.size) ∧ OL strE 9 F w' A n c x.under ∧ Below w.heap.size w w'
set_option maxHeartbeats 400000 in
theorem l_toRole (x : DRole) (A : Option Addr) (n c : Nat) (w : World) (hr : Rd strE w A n x.under) (hn : n ≤ 1048576) :
    Calls Try.prog 55 #[.agg #[.string x.name, .slice A n c]] w (RetRole x n w) := by
  go_enter Try.func55, Try.ntmps55
  go_wp2_with fail
  refine (l_toStringS A n c x.under _ (hr.below (by (repeat (first | exact Below.refl _ _ | assumption | refine Below.drew ?_ | refine Below.alloc ?_ (by first | omega | (simp; done) | (simp; omega) | exact Below.size (by assumption)) _ | refine Below.setCell ?_ (by first | omega | (simp; done) | (simp; omega)) _)))) hn).mono ?_
  rintro e w1 ⟨A1, c1, rfl, hl, ho, hb⟩
  obtain ⟨F, hF, hO⟩ := OL.of_own ho hl
  have z1 : (w.alloc (.cells #[.string x.name, .slice A n c] 69)).heap.size = w.heap.size + 1 := by simp
  have z2 : ((w.alloc (.cells #[.string x.name, .slice A n c] 69)).alloc (.cells #[.string ⟨#[]⟩, .slice none 0 0] 70)).heap.size = w.heap.size + 1 + 1 := by simp
  have R1 := range_below (B := 0) (World.rangeAt_alloc (range_new (w.alloc (.cells #[.string x.name, .slice A n c] 69)) #[.string ⟨#[]⟩, .slice none 0 0] 70) (.cells #[.string x.name, .slice none 0 0] 70)) hb
  have R2 := range_below (B := 0) (range_new ((w.alloc (.cells #[.string x.name, .slice A n c] 69)).alloc (.cells #[.string ⟨#[]⟩, .slice none 0 0] 70)) #[.string x.name, .slice none 0 0] 70) hb
  have f1 := fun j => free_later (free_later (new_free (w.alloc (.cells #[.string x.name, .slice A n c] 69)) #[.string ⟨#[]⟩, .slice none 0 0] 70 j) (by simp) ((Below.refl _ _).alloc (Nat.le_refl _) (.cells #[.string x.name, .slice none 0 0] 70))) (by simp) hb
  have f2 := fun j => free_later (new_free ((w.alloc (.cells #[.string x.name, .slice A n c] 69)).alloc (.cells #[.string ⟨#[]⟩, .slice none 0 0] 70)) #[.string x.name, .slice none 0 0] 70 j) (by simp) hb
  rw [z1] at R1 f1
  rw [z2] at R2 f2
  have a0 := R1 0 _ rfl
  have a1 := R1 1 _ rfl
  have b0 := R2 0 _ rfl
  have b1 := R2 1 _ rfl
  simp only [Nat.zero_add] at a0 a1 b0 b1
  have f10 := f1 0
  have f11 := f1 1
  have f21 := f2 1
  have hsz := hb.size
  have hbF : Below w.heap.size w w1 := ((((Below.refl _ _).alloc (Nat.le_refl _) _).alloc (by simp) _).alloc (by simp; omega) _).trans (hb.mono (by simp; omega))
  have zz : ∀ k, F k → w.heap.size + 1 + 1 + 1 ≤ k ∧ k < w1.heap.size := fun k hk => by have := hF k hk; simp at this; omega
  clear f1 f2 R1 R2 hF hl ho
  have g0 := (World.cell?_setCell_other (w := w1) (a := ⟨w.heap.size + 1 + 1, 1, none⟩) (b := ⟨w.heap.size + 1, 0, none⟩) (v := .slice A1 n c1) (fun e => by simp at e)).trans a0
  have g1 := (World.cell?_setCell_other (w := w1) (a := ⟨w.heap.size + 1 + 1, 1, none⟩) (b := ⟨w.heap.size + 1, 1, none⟩) (v := .slice A1 n c1) (fun e => by simp at e)).trans a1
  have HF := set_cells (w := w1.setCell ⟨w.heap.size + 1 + 1, 1, none⟩ (.slice A1 n c1)) (g := w.heap.size + 1) [.string x.name, .slice A1 n c1] 0 (fun j hj => by
    match j, hj with
    | 0, _ => exact ⟨_, g0⟩
    | 1, _ => exact ⟨_, g1⟩)
  have hT : Touch (fun k => k = w.heap.size + 1 ∨ k = w.heap.size + 1 + 1) w1 ((w1.setCell ⟨w.heap.size + 1 + 1, 1, none⟩ (.slice A1 n c1)).setCells (w.heap.size + 1) 0 [.string x.name, .slice A1 n c1]) :=
    (Touch.setCell (F := fun k => k = w.heap.size + 1 ∨ k = w.heap.size + 1 + 1) (p := ⟨w.heap.size + 1 + 1, 1, none⟩) (.inr rfl) _).trans (Touch.setCells (F := fun k => k = w.heap.size + 1 ∨ k = w.heap.size + 1 + 1) (.inl rfl) _ _)
  have hsT := hT.size
  have hOW := hO.touch hT fun k hk h => by have := zz k hk; omega
  have hbW := Below.touch hbF hT (fun k h => by omega) hbF.size
  clear hb hO hbF hT
  go_wp2
  change bodyPost _ _ _ _ _ ((w1.setCell ⟨w.heap.size + 1 + 1, 1, none⟩ (.slice A1 n c1)).setCells (w.heap.size + 1) 0 [.string x.name, .slice A1 n c1])
  generalize (w1.setCell ⟨w.heap.size + 1 + 1, 1, none⟩ (.slice A1 n c1)).setCells (w.heap.size + 1) 0 [.string x.name, .slice A1 n c1] = Wf at *
  have qf0 := HF 0 _ rfl
  have qf1 := HF 1 _ rfl
  simp only [Nat.zero_add] at qf0 qf1
  exact bodyPost_ret (v := .agg #[.string x.name, .slice A1 n c1]) (by simp [results, Try.results55, go_sem, qf0, qf1]) rfl ⟨A1, c1, F, rfl, fun k hk => by have := zz k hk; omega, hOW, hbW⟩

theorem Try.info_Role : (Try.prog.info? 70).map (fun i => (i.zero, i.size, i.bytes)) = some (some (.agg #[.string ⟨#[]⟩, .slice none 0 0]), 2, 40) := by kernel_rfl
/-- the list of roles being copied: the first ones are -/
structure FillR (g n : Nat) (l : List DRole) (r : List Raw) (G : Nat → Nat → Prop) (w : World) : Prop where
  own : w.ownsRow g 70 2 (.slice (some ⟨g, 0, none⟩) n n) n ((r ++ List.replicate (n - r.length) Raw.zero).flatMap rawE.cells)
  low : ∀ i k, G i k → g < k ∧ k < w.heap.size ∧ i < r.length
  apart : ∀ i j k, i ≠ j → G i k → ¬ G j k
  each : ∀ (i : Nat) x d, r[i]? = some x → l[i]? = some d → x.s = d.name ∧ OL strE 9 (G i) w x.A x.n x.c d.under
theorem FillR.step {g n : Nat} {l : List DRole} {r : List Raw} {G : Nat → Nat → Prop} {w w1 : World} (h : FillR g n l r G w) (hk : r.length < n) {d : DRole} (hd : l[r.length]? = some d) {A : Option Addr} {n' c' : Nat} {F : Nat → Prop} (hF : ∀ k, F k → w.heap.size ≤ k ∧ k < w1.heap.size)
    (hO : OL strE 9 F w1 A n' c' d.under) (hb : Below w.heap.size w w1) : FillR g n l (r ++ [⟨d.name, A, n', c'⟩]) (fun i k => if i = r.length then F k else G i k) (w1.setCells g (r.length * 2) [.string d.name, .slice A n' c']) := by
  have hg := (h.own.lt g rfl).2
  have ht : Touch (fun k => k = g) w1 (w1.setCells g (r.length * 2) [.string d.name, .slice A n' c']) := Touch.setCells (F := fun k => k = g) rfl _ _
  have hs := ht.size
  have hbs := hb.size
  refine ⟨?_, fun i k hG => ?_, fun i j k hij h1 h2 => ?_, fun i x e hx he => ?_⟩
  · have h1 := own_setCells [.string d.name, .slice A n' c'] (r.length * 2) (own_below h.own hb)
    have h2 := setsAt_flat rawE (r ++ List.replicate (n - r.length) Raw.zero) r.length ⟨d.name, A, n', c'⟩ (by simp; omega)
    have h3 : setsAt ((r ++ List.replicate (n - r.length) Raw.zero).flatMap rawE.cells) (r.length * 2) [.string d.name, .slice A n' c'] = _ := h2
    rw [h3, replicate_set hk] at h1
    exact h1
  · split at hG
    · have := hF k hG
      rw [List.length_append]
      simp
      omega
    · have := h.low i k hG
      rw [List.length_append]
      simp
      omega
  · split at h1
    · split at h2
      · omega
      · have := hF k h1
        have := h.low j k h2
        omega
    · split at h2
      · have := hF k h2
        have := h.low i k h1
        omega
      · exact h.apart i j k hij h1 h2
  · rcases get_snoc hx with hx' | ⟨rfl, rfl⟩
    · have hi := (List.getElem?_eq_some_iff.1 hx').1
      have := h.each i x e hx' he
      have hne : ¬ i = r.length := by omega
      simp only [hne, if_false]
      refine ⟨this.1, (this.2.below hb).touch ht fun k hk e' => ?_⟩
      have := h.low i k hk
      omega
    · rw [hd] at he
      cases he
      simp only [if_true]
      refine ⟨by trivial, hO.touch ht fun k hk e' => ?_⟩
      have := hF k hk
      omega
theorem FillR.done {g n B : Nat} {l : List DRole} {r : List Raw} {G : Nat → Nat → Prop} {w : World} (h : FillR g n l r G w) (hr : r.length = n) (hl : l.length = n) (hB : B ≤ g) :
    ∃ F : Nat → Prop, (∀ k, F k → B ≤ k ∧ k < w.heap.size) ∧ ORole F w (some ⟨g, 0, none⟩) n n l := by
  have hg := (h.own.lt g rfl).2
  have ho := h.own
  rw [show n - r.length = 0 by omega, List.replicate_zero, List.append_nil] at ho
  obtain ⟨F0, hF0, hO⟩ := OL.of_own (E := rawE) ho hr
  have hF0g : OL rawE 70 (fun k => k = g) w (some ⟨g, 0, none⟩) n n r := ⟨hO.1, hO.2.1, fun k hk => by cases hk; rfl⟩
  refine ⟨fun k => g ≤ k ∧ k < w.heap.size, fun k hk => ⟨by omega, hk.2⟩, r, _, G, hF0g, hl, fun k hk => ?_, fun i k hk => ?_, h.apart, h.each⟩
  · subst hk
    omega
  · have := h.low i k hk
    omega
set_option maxHeartbeats 1000000 in
theorem l_toRoleS (A : Option Addr) (n c : Nat) (l : List DRole) (w : World) (hr : RdRole w A n l) (hn : n ≤ 1048576) (hs : sumRole l ≤ 1048576) :
    Calls Try.prog 16 #[.slice A n c] w fun e w' => ∃ A' c' F, e = .returned (.slice A' n c') ∧ (∀ k, F k → w.heap.size ≤ k ∧ k < w'.heap.size) ∧ ORole F w' A' n c' l ∧ Below w.heap.size w w' := by
  have Hl := Lib.hid hr.len
  obtain ⟨i0, hi, hz0, hz1, hz2⟩ := info_parts Try.info_Role
  have hmk := fun W => run_make_rows (P := Try.prog) 25 70 i0 _ Try.underlying25 hi hz0 hz1 .i64 .i64 n (by rw [hz2]; omega) (by omega) W
  clear hi hz0 hz1 hz2
  have HS := Lib.hid hs
  go_enter Try.func16, Try.ntmps16
  go_wp2_with fail
  clear hmk
  go_loopw [4] (fun i wr => ∃ (r : List Raw) (G : Nat → Nat → Prop), r.length ≤ n ∧ i = .int .i64 r.length ∧ FillR w.heap.size n l r G wr ∧ Below w.heap.size w wr) (fun i _ => n - (intOf i).toNat)
  case atStart => exact ⟨[], fun _ _ => False, Nat.zero_le _, rfl, ⟨by
    have h := World.ownsRow_lit (base := w.heap.size) (e := 70) (size := rawE.k) w (madeCells #[.string ⟨#[]⟩, .slice none 0 0] (n * rawE.k)) n (Nat.le_refl _) (by unfold maxLen; omega) (by rw [size_madeCells])
    rw [toList_madeCells rawE (z := #[.string ⟨#[]⟩, .slice none 0 0]) (x := Raw.zero) rfl] at h
    exact h, fun _ _ h => h.elim, fun _ _ _ _ h => h.elim, fun i x d h => by simp at h⟩, by (repeat (first | exact Below.refl _ _ | assumption | refine Below.drew ?_ | refine Below.alloc ?_ (by first | omega | (simp; done) | (simp; omega) | exact Below.size (by assumption)) _ | refine Below.setCell ?_ (by first | omega | (simp; done) | (simp; omega)) _))⟩
  case round =>
    obtain ⟨r, G, hk, rfl, hp, hb⟩ := hrel
    by_cases hkn : r.length < n
    · obtain ⟨b, off, x, A', n', c', rfl, hks, hc, hru⟩ := hr.get hkn
      have hc0 := range_below (B := 0) hc hb 0 _ rfl
      have hc1 := range_below (B := 0) hc hb 1 _ rfl
      simp only [Nat.add_zero] at hc0 hc1
      have hu := Lib.hid (under_le (mem_of_get hks) HS.out)
      have HK := Lib.hid hks; clear hks hc
      have hru' := Lib.hid (hru.below hb)
      have hl' := Lib.hid hru.1
      clear hru
      go_wp2_with fail
      refine (l_toRole x A' n' c' _ hru'.out (by have := hu.out; have := hl'.out; omega)).mono ?_
      rintro e w1 ⟨A1, c1, F, rfl, hF, hO, hb1⟩
      have ho := own_below hp.own hb1
      obtain ⟨u0, hu0⟩ := own_cell ho (j := r.length * 2) (by omega)
      have hf0 := ho.frozenAt (r.length * 2)
      obtain ⟨u1, hu1⟩ := own_cell ho (j := r.length * 2 + 1) (by omega)
      have hf1 := ho.frozenAt (r.length * 2 + 1)
      have HP := Lib.hid (hp.step hkn HK.out hF hO hb1)
      have hb2 := below_setCells (Nat.le_refl w.heap.size) [.string x.name, .slice A1 n' c1] (r.length * 2) (hb.trans (hb1.mono hb.size))
      clear hc0 hc1 ho hF hO
      go_wp2
      first | (refine ⟨⟨r ++ [⟨x.name, A1, n', c1⟩], _, by simp; omega, by simp, HP.out, hb2⟩, ?_⟩; (simp [intOf]; omega)) | (go_roundw; (case rel => first | exact ⟨r ++ [⟨x.name, A1, n', c1⟩], _, by simp; omega, by simp, HP.out, hb2⟩ | ((try refine ⟨trivial, ?_⟩); (repeat apply Exists.intro); exact ⟨⟨r ++ [⟨x.name, A1, n', c1⟩], _, by simp; omega, by simp, HP.out, hb2⟩, rfl⟩)); (case measure => (simp [intOf]; omega)))
    · go_wp2
      go_ret
      obtain ⟨F, hF, hO⟩ := hp.done (by omega) Hl.out (Nat.le_refl _)
      exact ⟨_, _, F, rfl, hF, hO, hb⟩

set_option maxHeartbeats 400000 in
theorem l_eqRole (s : ByteArray) (ss : List ByteArray) (A A' : Option Addr) (n c c' : Nat) (w : World) (hr : Rd strE w A n ss) (hr' : Rd strE w A' n ss) (hn : n ≤ maxLen) :
    Calls Try.prog 61 #[.agg #[.string s, .slice A n c], .agg #[.string s, .slice A' n c']] w (RetB true w) := by
  go_enter Try.func61, Try.ntmps61
  go_wp2_with fail
  refine (l_eqStringS A A' n c c' ss _ (hr.below (by (repeat (first | exact Below.refl _ _ | assumption | refine Below.drew ?_ | refine Below.alloc ?_ (by first | omega | (simp; done) | (simp; omega) | exact Below.size (by assumption)) _ | refine Below.setCell ?_ (by first | omega | (simp; done) | (simp; omega)) _)))) (hr'.below (by (repeat (first | exact Below.refl _ _ | assumption | refine Below.drew ?_ | refine Below.alloc ?_ (by first | omega | (simp; done) | (simp; omega) | exact Below.size (by assumption)) _ | refine Below.setCell ?_ (by first | omega | (simp; done) | (simp; omega)) _)))) hn).mono ?_
  rintro e w1 ⟨rfl, hb⟩
  go_wp2
  go_ret
  exact ⟨rfl, (((Below.refl _ _).alloc (Nat.le_refl _) _).alloc (by simp) _).trans (hb.mono (by simp; omega))⟩

set_option maxRecDepth 100000 in
set_option maxHeartbeats 1000000 in
theorem l_eqRoleS (A A' : Option Addr) (n c c' : Nat) (l : List DRole) (w : World) (hr : RdRole w A n l) (hr' : RdRole w A' n l) (hn : n ≤ maxLen) (hg : ∀ x ∈ l, x.good) :
    Calls Try.prog 18 #[.slice A n c, .slice A' n c'] w (RetB true w) := by
  unfold maxLen at hn
  have HG := Lib.hid hg; clear hg
  go_enter Try.func18, Try.ntmps18
  go_wp2
  go_loopw [5] (fun i wr => ∃ k : Nat, k ≤ n ∧ i = .int .i64 k ∧ Below w.heap.size w wr) (fun i _ => n - (intOf i).toNat)
  case atStart => exact ⟨0, Nat.zero_le _, rfl, by (repeat (first | exact Below.refl _ _ | assumption | refine Below.drew ?_ | refine Below.alloc ?_ (by first | omega | (simp; done) | (simp; omega) | exact Below.size (by assumption)) _ | refine Below.setCell ?_ (by first | omega | (simp; done) | (simp; omega)) _))⟩
  case round =>
    obtain ⟨k, hk, rfl, hb⟩ := hrel
    by_cases hkn : k < n
    · obtain ⟨b, off, x, A1, n1, c1, rfl, hks, hc, hru⟩ := hr.get hkn
      obtain ⟨b', off', x', A2, n2, c2, rfl, hks', hc', hru'⟩ := hr'.get hkn
      obtain rfl : x = x' := Option.some.inj (hks.symm.trans hks')
      obtain rfl : n1 = n2 := hru.1.symm.trans hru'.1
      have hc0 := range_below (B := 0) hc hb 0 _ rfl
      have hc1 := range_below (B := 0) hc hb 1 _ rfl
      have hd0 := range_below (B := 0) hc' hb 0 _ rfl
      have hd1 := range_below (B := 0) hc' hb 1 _ rfl
      simp only [Nat.add_zero] at hc0 hc1 hd0 hd1
      have hq1 := hru.below hb.drew
      have hq2 := hru'.below hb.drew
      have hm : n1 ≤ maxLen := by rw [← hru.1]; exact (HG.out x (mem_of_get hks)).2.1
      clear hc hc' hks hks' hru hru'
      go_wp2_with fail
      go_still_tail 8, (by kernel_rfl)
      change wpList _ _ _ _ _ wr.drew
      go_wp2_with fail
      refine (l_eqRole x.name x.under A1 A2 n1 c1 c2 _ hq1 hq2 hm).mono ?_
      rintro e w1 ⟨rfl, hb1⟩
      have hb2 := hb.drew.trans (hb1.mono hb.size)
      go_wp2
      first | (refine ⟨⟨k + 1, by omega, by go_num, hb2⟩, ?_⟩; (simp [intOf]; omega)) | (go_roundw; (case rel => first | exact ⟨k + 1, by omega, by go_num, hb2⟩ | ((try refine ⟨trivial, ?_⟩); (repeat apply Exists.intro); exact ⟨⟨k + 1, by omega, by go_num, hb2⟩, rfl⟩)); (case measure => (simp [intOf]; omega)))
    · go_wp2
      go_ret
      exact ⟨rfl, hb⟩

theorem OL.place {α : Type} {E : Enc α} {et : TypeId} {F : Nat → Prop} {w : World} {A : Option Addr} {n c : Nat} {l : List α} (h : OL E et F w A n c l) (hn : 0 < n) : ∃ g, A = some ⟨g, 0, none⟩ := by
  rcases h.1.2 with ⟨e, h0⟩ | ⟨g, cap, cur, e, _⟩
  · cases e; omega
  · cases e; exact ⟨_, rfl⟩
def cntU : List DRole → Int
  | [] => 0
  | x :: r => x.under.length + cntU r
theorem cntU_nonneg (l : List DRole) : 0 ≤ cntU l := by
  induction l with
  | nil => simp [cntU]
  | cons x r ih => simp only [cntU]; omega
theorem cntU_le (l : List DRole) : cntU l ≤ sumRole l := by
  induction l with
  | nil => simp [cntU, sumRole]
  | cons x r ih => have := sumS_nonneg x.under; simp only [cntU, sumRole, DRole.sz]; omega
theorem raw_set {x : Raw} (T : ByteArray) : ∀ {r : List Raw} {k : Nat}, r[k]? = some x → (r.flatMap rawE.cells).set (k * 2) (.string T) = (r.set k ⟨T, x.A, x.n, x.c⟩).flatMap rawE.cells
  | [], k, h => by simp at h
  | y :: r, 0, h => by
    simp only [List.getElem?_cons_zero, Option.some.injEq] at h
    subst h
    rfl
  | y :: r, k + 1, h => by
    simp only [List.getElem?_cons_succ] at h
    rw [List.set_cons_succ, List.flatMap_cons, List.flatMap_cons, ← raw_set T h, show (k + 1) * 2 = k * 2 + 1 + 1 by omega]
    rfl
theorem ORole.marked {F0 F : Nat → Prop} {G : Nat → Nat → Prop} {w w1 w2 : World} {g n c k : Nat} {l : List DRole} {r : List Raw} {x : Raw} {d : DRole} {T : ByteArray} {ss : List ByteArray}
    (h1 : OL rawE 70 F0 w (some ⟨g, 0, none⟩) n c r) (h2 : l.length = n) (h3 : ∀ k, F0 k → F k) (h4 : ∀ i k, G i k → F k ∧ ¬ F0 k) (h5 : ∀ i j k, i ≠ j → G i k → ¬ G j k)
    (h6 : ∀ (i : Nat) x d, r[i]? = some x → l[i]? = some d → x.s = d.name ∧ OL strE 9 (G i) w x.A x.n x.c d.under) (hx : r[k]? = some x) (hd : l[k]? = some d)
    (hb : Below w.heap.size w w1) (hO : OL strE 9 (G k) w2 x.A x.n x.c ss) (ht : Touch (G k) (w1.setCell ⟨g, k * 2, none⟩ (.string T)) w2) :
    ORole F w2 (some ⟨g, 0, none⟩) n c (l.set k ⟨T, ss⟩) ∧ Touch F w w2 := by
  have hg : F0 g := h1.2.2 g rfl
  have hS : Touch F0 w1 (w1.setCell ⟨g, k * 2, none⟩ (.string T)) := Touch.setCell (F := F0) (p := ⟨g, k * 2, none⟩) hg _
  refine ⟨⟨r.set k ⟨T, x.A, x.n, x.c⟩, F0, G, ⟨?_, by simpa using h1.2.1, h1.2.2⟩, by simpa using h2, h3, h4, h5, fun i y e hy he => ?_⟩, ?_⟩
  · have h7 := ((own_below h1.1 hb).stored (k * 2) (.string T)).1
    rw [raw_set T hx] at h7
    exact own_touch h7 ht fun k' hk' h8 => (h4 _ _ h8).2 (h1.2.2 k' hk')
  · rw [List.getElem?_set] at hy he
    by_cases e' : k = i
    · subst e'
      rw [if_pos rfl, if_pos (List.getElem?_eq_some_iff.1 hx).1] at hy
      rw [if_pos rfl, if_pos (List.getElem?_eq_some_iff.1 hd).1] at he
      cases hy
      cases he
      exact ⟨rfl, hO⟩
    · rw [if_neg e'] at hy he
      have h7 := h6 i y e hy he
      exact ⟨h7.1, ((h7.2.below hb).touch hS fun k' hk' => (h4 i k' hk').2).touch ht fun k' hk' h8 => h5 i k k' (fun e => e' e.symm) hk' h8⟩
  · exact ((Touch.of_below hb).trans (hS.mono h3)).trans (ht.mono fun k' hk' => (h4 k k' hk').1)
set_option maxHeartbeats 2000000 in
theorem l_markRoleS (F : Nat → Prop) (A : Option Addr) (n c : Nat) (l : List DRole) (k0 : Int) (w : World) (hO : ORole F w A n c l) (hn : n ≤ 1048576) (h0 : 0 ≤ k0) (h1 : k0 ≤ 549751619584) (hs : sumRole l ≤ 1048576) :
    Calls Try.prog 22 #[.slice A n c, .int .i64 k0] w fun e w' => ∃ (q : Int) (l' : List DRole), k0 ≤ q ∧ q ≤ k0 + 2097152 ∧ e = .returned (.int .i64 q) ∧ ORole F w' A n c l' ∧ Touch F w w' := by
  have hc1 := cntU_le l
  have hc0 := cntU_nonneg l
  go_enter Try.func22, Try.ntmps22
  go_wp2_with fail
  go_loopw [1, 5] (fun t i wr => ∃ (k : Nat) (q : Int) (l' : List DRole), k ≤ n ∧ i = .int .i64 k ∧ t = .int .i64 q ∧ ORole F wr A n c l' ∧ Touch F w wr ∧ 0 ≤ q ∧ q ≤ 549753716736 ∧ k0 ≤ q ∧ q ≤ k0 + 2097152 ∧ Hid (l'.drop k = l.drop k ∧ q = k0 + k + cntU l - cntU (l.drop k))) (fun _ i _ => n - (intOf i).toNat)
  case atStart => exact ⟨0, k0, l, Nat.zero_le _, rfl, rfl, hO, Touch.refl F w, by omega, by omega, by omega, by omega, Lib.hid ⟨rfl, by rw [List.drop_zero]; omega⟩⟩
  case round =>
    obtain ⟨k, q, l', hk, rfl, rfl, hp, ht, hq0, hq1, hq2, hq3, HH⟩ := hrel
    by_cases hkn : k < n
    · obtain ⟨r, F0, G, g1, g2, g3, g4, g5, g6⟩ := hp
      obtain ⟨x, hx⟩ : ∃ x, r[k]? = some x := ⟨_, List.getElem?_eq_getElem (by have := g1.2.1; omega)⟩
      obtain ⟨d, hd⟩ : ∃ d, l'[k]? = some d := ⟨_, List.getElem?_eq_getElem (by omega)⟩
      obtain ⟨hxs, hu⟩ := g6 k x d hx hd
      obtain ⟨b, rfl⟩ := g1.place (by omega)
      obtain ⟨b', off, x', hA, hx', hcx⟩ := g1.rd.get hkn
      rw [hx] at hx'
      cases hx'
      cases hA
      have HD : Hid (l.drop k = d :: l.drop (k + 1) ∧ l'.drop (k + 1) = l.drop (k + 1)) := Lib.hid (by
        have h2 := drop_of_get hd
        rw [HH.out.1] at h2
        have h3 := congrArg (List.drop 1) h2
        rw [List.drop_drop, List.drop_succ_cons, List.drop_zero] at h3
        exact ⟨by rw [h2, h3], h3.symm⟩)
      have hcn : Hid ((x.n : Int) = d.under.length ∧ 0 ≤ cntU (l.drop (k + 1))) := Lib.hid ⟨by rw [hu.2.1], cntU_nonneg _⟩
      have HQ : Hid (cntU (l.drop k) = d.under.length + cntU (l.drop (k + 1))) := Lib.hid (by rw [HD.out.1]; rfl)
      have hb1 : q + 1 + x.n ≤ 549753716736 := by have := HQ.out; have := hcn.out; have := HH.out.2; omega
      have hb2 : q + 1 + x.n ≤ k0 + 2097152 := by have := HQ.out; have := hcn.out; have := HH.out.2; omega
      go_wp2_with fail
      refine (l_markText_at _ _ (by omega) (by omega)).mono ?_
      rintro e w1 ⟨T0, rfl, HT0, hb0⟩
      have ho := own_below g1.1 hb0
      obtain ⟨u0, hu0⟩ := own_cell ho (j := k * 2) (by simp only [rawE]; omega)
      have hf0 := ho.frozenAt (k * 2)
      have hcx1 := range_below (B := 0) hcx hb0 1 _ rfl
      have hcx1' := (World.cell?_setCell_other (w := w1) (a := ⟨b, k * 2, none⟩) (b := ⟨b, 0 + k * rawE.k + 1, none⟩) (v := .string T0) (fun e => by simp [rawE] at e)).trans hcx1
      simp only [rawE, Nat.zero_add] at hcx1'
      have hu1 := (hu.below hb0).touch (Touch.setCell (F := F0) (p := ⟨b, k * 2, none⟩) (g1.2.2 b rfl) (.string T0)) fun k' hk' => (g4 k k' hk').2
      clear hcx1 hcx
      go_wp2_with fail
      refine (l_markStringS (G k) x.A x.n x.c d.under _ _ hu1 (by omega) (by omega) (by omega)).mono ?_
      rintro e w2 ⟨rfl, hO2, ht2⟩
      obtain ⟨hp2, ht3⟩ := ORole.marked g1 g2 g3 g4 g5 g6 hx hd hb0 hO2 ht2
      have HN := Lib.hid (show (l'.set k ⟨T0, markLS x.n (q + 1).toNat⟩).drop (k + 1) = l.drop (k + 1) ∧ q + 1 + x.n = k0 + ((k + 1 : Nat) : Int) + cntU l - cntU (l.drop (k + 1)) from ⟨by
        rw [List.drop_set_of_lt (by omega)]; exact HD.out.2, by have := HQ.out; have := hcn.out; have := HH.out.2; omega⟩)
      go_wp2
      first | (refine ⟨⟨k + 1, q + 1 + x.n, _, by omega, by go_num, by go_num, hp2, ht.trans ht3, by omega, by omega, by omega, by omega, HN⟩, ?_⟩; (simp [intOf]; omega)) | (go_roundw; (case rel => first | exact ⟨k + 1, q + 1 + x.n, _, by omega, by go_num, by go_num, hp2, ht.trans ht3, by omega, by omega, by omega, by omega, HN⟩ | ((try refine ⟨trivial, ?_⟩); (repeat apply Exists.intro); exact ⟨⟨k + 1, q + 1 + x.n, _, by omega, by go_num, by go_num, hp2, ht.trans ht3, by omega, by omega, by omega, by omega, HN⟩, rfl⟩)); (case measure => (simp [intOf]; omega)))
    · go_wp2
      go_ret
      exact ⟨q, l', hq2, hq3, rfl, hp, ht⟩

end Go.Proofs.Ytepegiklnhoobaa

/- The program's PagesOf. -/
import Derived.Test.YtlnhjjcficoldaaPagesC
import Derived.Test.YtlnhjjcficoldaaStepIn
namespace Go.Proofs.Ytlnhjjcficoldaa
set_option linter.unusedVariables false
set_option linter.unusedSimpArgs false
set_option linter.unusedSectionVars false
open Go.RowKit Go.Shelf
attribute [local go_sem] Oper.semAt_some

theorem GL.lower {α : Type} {E : Enc α} {et : TypeId} {base base' : Nat} {w : World} {v : Value} {l : List α} (h : GL E et base w v l) (hb : base' ≤ base) : GL E et base' w v l := by
  refine ⟨h.1, ?_⟩
  rcases h.2 with e | ⟨g, cap, cur, e1, hb1, r⟩
  · exact .inl e
  · exact .inr ⟨g, cap, cur, e1, Nat.le_trans hb hb1, r⟩
theorem GL.keptR {α : Type} {E : Enc α} {et : TypeId} {base B0 : Nat} {W W' : World} {v : Value} {l : List α} {row : Option Nat} (h : GL E et base W v l) (hg : W.grownBy W' row) (hrow : ∀ r, row = some r → B0 ≤ r ∧ ∃ o : Obj, W.heap[r]? = some o ∧ o.isCells = false) : GL E et base W' v l := by
  refine World.ownsRow.kept h hg ?_
  rcases h.2 with ⟨rfl, _⟩ | ⟨g, cap, cur, rfl, _, hgb, _⟩
  · exact .inl rfl
  · refine .inr fun e' => ?_
    obtain ⟨_, o, ho, hc⟩ := hrow g (by simpa [Value.ownBlock] using e'.symm)
    rw [hgb] at ho; cases ho; cases hc
theorem Boxed.keptR {B0 B : Nat} {W W' : World} {t : TypeId} {v : Value} {row : Option Nat} (h : Boxed W B t v) (hg : W.grownBy W' row) (hrow : ∀ r, row = some r → B0 ≤ r ∧ ∃ o : Obj, W.heap[r]? = some o ∧ o.isCells = false) : Boxed W' B t v :=
  h.kept hg (fun e' => by
    obtain ⟨_, o, ho, hc⟩ := hrow B e'.symm
    rw [show W.heap[B]? = _ from h] at ho; cases ho; cases hc)
/-- between two rounds: the pages so far, in the box; the heading's box -/
def PgI (w : World) (m : Nat) (hd : ByteArray) (pre : List (Chk w m)) (W : World) : Prop :=
  ∃ (B : Option Addr) (n d : Nat) (ps : List Sl), Boxed W (w.heap.size + 2) 24 (.slice B n d) ∧ Boxed W w.heap.size 9 (.string hd) ∧ n = pre.length ∧ GL slE 22 (w.heap.size + 1) W (.slice B n d) ps ∧
    PgW (w.heap.size + 5) W (.slice B n d) ps (pre.map fun x => hd :: x.l) ∧ (∀ k, Value.ownBlock (.slice B n d) = some k → k ≠ w.heap.size + 3 ∧ k ≠ w.heap.size + 4) ∧ w.heap.size + 5 ≤ W.heap.size
theorem PgI.own (w : World) (m : Nat) (hd : ByteArray) (B0 : Nat) : OwnFrom B0 (PgI w m hd) := by
  rintro pre X Y row ⟨B, n, d, ps, h1, h2, h3, h4, h5, h6, h7⟩ hg hrow
  exact ⟨B, n, d, ps, Boxed.keptR h1 hg hrow, Boxed.keptR h2 hg hrow, h3, h4.keptR hg hrow, ⟨h5.len, fun k p l hp hl => (h5.row k p l hp hl).keptR hg hrow, h5.out, h5.two⟩, h6, Nat.le_trans h7 hg.size⟩
set_option maxHeartbeats 1000000 in
/-- a round's end: the page is added, the box holds the longer list -/
theorem leaf_ok {w W w4 w6 : World} {m B0 : Nat} {hd : ByteArray} {pre : List (Chk w m)} {x : Chk w m} {B B6 A4 : Option Addr} {d d6 c4 k4 : Nat} {ps : List Sl} (q1 : Boxed W (w.heap.size + 1 + 1) 24 (.slice B pre.length d)) (q2 : Boxed W w.heap.size 9 (.string hd))
    (q4 : GL slE 22 (w.heap.size + 1) W (.slice B pre.length d) ps) (q5 : PgW (w.heap.size + 5) W (.slice B pre.length d) ps (pre.map fun x => hd :: x.l)) (q6 : ∀ k, Value.ownBlock (.slice B pre.length d) = some k → k ≠ w.heap.size + 3 ∧ k ≠ w.heap.size + 4) (q7 : w.heap.size + 5 ≤ W.heap.size) (hB : Below w.heap.size w W)
    (hgl4 : GL strE 9 W.heap.size w4 (.slice A4 k4 c4) (hd :: x.l)) (hB4 : Below W.heap.size W w4) (o : Obj) (hgl6 : GL slE 22 (w.heap.size + 1) w6 (.slice B6 (pre.length + 1) d6) (ps ++ [⟨A4, k4, c4⟩]))
    (ht6 : Touch (fun k => Value.ownBlock (.slice B pre.length d) = some k) (w4.alloc o) w6) (hn6 : ∀ k, Value.ownBlock (.slice B6 (pre.length + 1) d6) = some k → Value.ownBlock (.slice B pre.length d) = some k ∨ (w4.alloc o).heap.size ≤ k) :
    KeepsFrom B0 W (w6.setCell ⟨w.heap.size + 1 + 1, 0, none⟩ (.slice B6 (pre.length + 1) d6)) ∧ KpC w.heap.size (w.heap.size + 1 + 1 + 1) (w.heap.size + 1 + 1 + 1 + 1) W (w6.setCell ⟨w.heap.size + 1 + 1, 0, none⟩ (.slice B6 (pre.length + 1) d6)) ∧
      (PgI w m hd (pre ++ [x]) (w6.setCell ⟨w.heap.size + 1 + 1, 0, none⟩ (.slice B6 (pre.length + 1) d6)) ∧ Below w.heap.size w (w6.setCell ⟨w.heap.size + 1 + 1, 0, none⟩ (.slice B6 (pre.length + 1) d6))) := by
  have hl1 := q1.lt
  have hl0 := q2.lt
  have hnb : Value.ownBlock (.slice B pre.length d) ≠ some (w.heap.size + 1 + 1) := fun e => (Boxed.not_row q1 (by decide) q4) e.symm
  have hg4o : Below W.heap.size W (w4.alloc o) := hB4.alloc hB4.size o
  have hs4 := hg4o.size
  have hwW := hB.size
  have hlow := q4.low
  have hB6 : Below w.heap.size W w6 := Below.touch (hg4o.mono hwW) ht6 (fun j hj => by have := hlow j hj; omega) (Nat.le_trans hwW hs4)
  have hBs := hB6.setCell (p := ⟨w.heap.size + 1 + 1, 0, none⟩) (show w.heap.size ≤ w.heap.size + 1 + 1 by omega) (.slice B6 (pre.length + 1) d6)
  have hblk : ∀ k, k < W.heap.size → Value.ownBlock (.slice B pre.length d) ≠ some k → w6.heap[k]? = W.heap[k]? := fun k hk hne => (ht6.block k (by omega) hne).trans (hg4o.block k hk)
  have b6 : Boxed w6 (w.heap.size + 1 + 1) 24 (.slice B pre.length d) := (hblk _ hl1 hnb).trans q1
  have b0 : Boxed w6 w.heap.size 9 (.string hd) := (hblk _ hl0 (fun e => by have := hlow _ e; omega)).trans q2
  have hT : Touch (fun k => k = w.heap.size + 1 + 1) w6 (w6.setCell ⟨w.heap.size + 1 + 1, 0, none⟩ (.slice B6 (pre.length + 1) d6)) := Touch.setCell (F := fun k => k = w.heap.size + 1 + 1) (p := ⟨w.heap.size + 1 + 1, 0, none⟩) rfl _
  have hP := PgW.add (q5.below hg4o) ⟨A4, k4, c4⟩ (hd :: x.l) ((hgl4.alloc o).lower q7) (fun j h1 h2 => by have h8 := hgl4.low j h1; have h9 := (q4.lt j h2).2; omega)
    (fun k q hq j h1 h2 => by
      obtain ⟨t, ht'⟩ : ∃ t, (pre.map fun x => hd :: x.l)[k]? = some t := get_ex (by rw [← q5.len]; exact get_lt hq)
      have h8 := hgl4.low j h1
      have h9 := ((q5.row k q t hq ht').lt _ h2).2
      omega) ht6 hn6
  have hP' := hP.touch hT (fun k p hp j hj e => by
    obtain ⟨t, ht'⟩ := get_ex (l := (pre.map fun x => hd :: x.l) ++ [hd :: x.l]) (k := k) (by rw [← hP.len]; exact get_lt hp)
    exact (Boxed.not_row b6 (by decide) (hP.row k p t hp ht')) (by rw [hj, e]))
  refine ⟨KeepsOthers.from ⟨hBs.size, fun k ob h hc => (KeepsOthers.setCell w6 _ _).same k ob ((hblk k (Array.getElem?_eq_some_iff.1 h).1 (fun e => ?_)).trans h) hc⟩ _, ⟨hBs, ?_, ?_⟩, ⟨B6, pre.length + 1, d6, ps ++ [⟨A4, k4, c4⟩], b6.set _, b0.kept (grownBy_setCell' w6 (w.heap.size + 1 + 1) _) (by simp; omega), by simp,
    GL.touch hgl6 hT (fun k hk e => (Boxed.not_row b6 (by decide) hgl6) (by rw [hk, e])), by rw [List.map_append]; exact hP', fun k h => ?_, Nat.le_trans q7 hBs.size⟩, hB.trans hBs⟩
  · rcases q4.2 with ⟨e1, _⟩ | ⟨g, cap, cur, e1, _, hgb, _⟩
    · rw [e1] at e; cases e
    · rw [e1] at e; cases e
      rw [h] at hgb; cases hgb; cases hc
  · refine (World.cell?_setCell_other _ _ _ _ (fun e => by have h1 := congrArg Addr.block e; simp only at h1; omega)).trans ?_
    simp only [World.cell?, hblk _ (show w.heap.size + 1 + 1 + 1 < W.heap.size by omega) (fun e => (q6 _ e).1 rfl)]
  · refine (World.cell?_setCell_other _ _ _ _ (fun e => by have h1 := congrArg Addr.block e; simp only at h1; omega)).trans ?_
    simp only [World.cell?, hblk _ (show w.heap.size + 1 + 1 + 1 + 1 < W.heap.size by omega) (fun e => (q6 _ e).2 rfl)]
  · rcases hn6 k h with h' | h'
    · exact q6 k h'
    · omega

set_option maxRecDepth 100000 in
set_option maxHeartbeats 4000000 in
theorem i_PagesOf (A : Option Addr) (N c : Nat) (ss : List ByteArray) (h : Int) (hd : ByteArray) (w : World) (hr : Rd strE w A N ss) (hN : N ≤ maxLen) (hs : ∀ s ∈ ss, s.size ≤ maxLen) (hhd : hd.size ≤ maxLen) (hNc : N ≤ c) :
    Calls Try.prog 7 #[.slice A N c, .int .i64 h, .string hd] w (RetSSC (pgV ss h hd) (pgC ss h hd) w) := by
  obtain ⟨i0, hi, hz0, hz1, hz2⟩ := info_parts Try.info_str
  have HI := Lib.hid (And.intro hz1 hz2)
  clear hz1 hz2
  obtain ⟨j0, gi, gz0, gz1, gz2⟩ := info_parts Try.info_slS
  have GI := Lib.hid (And.intro gz1 gz2)
  clear gz1 gz2
  refine (callsIn_wide (n := 6)).1 ?_
  refine callsIn_of_wp_marks Try.func7 rfl trivial ?_ rfl
  simp only [Try.ntmps7, List.size_toArray, List.length_cons, List.length_nil, Nat.reduceAdd, Nat.reduceSub, Array.replicate_succ, Array.replicate_zero, List.push_toArray, List.append_toArray, List.nil_append, List.cons_append]
  gi_wp2
  refine ⟨trivial, ?_⟩
  refine (callsIn_wide.2 (i_ValidReport A N c ss _ (hr.alloc _) hN hs)).mono ?_
  rintro e w' ⟨rfl, rfl⟩
  have hcd := cell_one_new w (.string hd) 9
  rcases h1 : repB ss with _ | _
  · have E := Lib.hid (pg_bad1 (h := h) (hd := hd) h1)
    clear h1
    gi_wp2
    exact ⟨_, results_tmp2 rfl _ _ _, RetSSC.nil E.out.1 E.out.2 ((Below.refl _ _).alloc (Nat.le_refl _) _)⟩
  have H1 := Lib.hid h1
  have hN2 := rep_len h1
  rw [hr.1] at hN2
  clear h1
  gi_wp2
  refine ⟨trivial, ?_⟩
  refine (callsIn_wide.2 (i_within _ _ _ _)).mono ?_
  rintro e w' ⟨rfl, rfl⟩
  rcases h2 : inB h 2 200 with _ | _
  · have E := Lib.hid (pg_bad2 H1.out (show (inB h 2 200 && lineB hd) = false by rw [h2]; rfl))
    clear h2
    gi_wp2
    refine ⟨trivial, ?_⟩
    gi_wp2
    exact ⟨_, results_tmp2 rfl _ _ _, RetSSC.nil E.out.1 E.out.2 ((Below.refl _ _).alloc (Nat.le_refl _) _)⟩
  have H2 := Lib.hid h2
  have hin := inB_spec h2
  clear h2
  gi_wp2
  refine ⟨trivial, ?_⟩
  refine (callsIn_wide.2 (i_isLine hd _ hhd)).mono ?_
  rintro e w' ⟨rfl, rfl⟩
  rcases h3 : lineB hd with _ | _
  · have E := Lib.hid (pg_bad2 H1.out (show (inB h 2 200 && lineB hd) = false by rw [h3, Bool.and_false]))
    clear h3
    gi_wp2
    exact ⟨_, results_tmp2 rfl _ _ _, RetSSC.nil E.out.1 E.out.2 ((Below.refl _ _).alloc (Nat.le_refl _) _)⟩
  have E := Lib.hid (pg_ok H1.out (show (inB h 2 200 && lineB hd) = true by rw [H2.out, h3]; rfl))
  clear h3
  obtain ⟨m, hm⟩ : ∃ m : Nat, h - 1 = m := ⟨(h - 1).toNat, by omega⟩
  obtain rfl : h = (m : Int) + 1 := by omega
  have hm1 : 1 ≤ m := by omega
  have hm2 : m ≤ 199 := by omega
  rw [show ((m : Int) + 1 - 1).toNat = m by omega] at E
  have HL := Lib.hid hr.1
  clear hm hin H2 H1
  gi_wp2
  refine ⟨trivial, ?_⟩
  refine (chunk_in Fence.wide 5 trivial rfl A N c m hm1 _).mono ?_
  rintro e w' ⟨rfl, rfl⟩
  gi_wp2
  have b0 := ((((Boxed.new w 9 (.string hd)).alloc (.cells #[] 22)).alloc (.cells #[.slice (some ⟨w.heap.size + 1, 0, none⟩) 0 0] 24)).alloc (.cells #[.slice A N c] 22)).alloc (.cells #[.int .i64 m] 3)
  have b2 := ((Boxed.new ((w.alloc (.cells #[.string hd] 9)).alloc (.cells #[] 22)) 24 (.slice (some ⟨w.heap.size + 1, 0, none⟩) 0 0)).alloc (.cells #[.slice A N c] 22)).alloc (.cells #[.int .i64 m] 3)
  have b3 := (Boxed.new (((w.alloc (.cells #[.string hd] 9)).alloc (.cells #[] 22)).alloc (.cells #[.slice (some ⟨w.heap.size + 1, 0, none⟩) 0 0] 24)) 22 (.slice A N c)).alloc (.cells #[.int .i64 m] 3)
  have b4 := Boxed.new ((((w.alloc (.cells #[.string hd] 9)).alloc (.cells #[] 22)).alloc (.cells #[.slice (some ⟨w.heap.size + 1, 0, none⟩) 0 0] 24)).alloc (.cells #[.slice A N c] 22)) 3 (.int .i64 (m : Int))
  have hG := (((GL.mk0 (E := slE) (et := 22) (base := w.heap.size + 1) (w := w.alloc (.cells #[.string hd] 9)) (by simp)).alloc (.cells #[.slice (some ⟨w.heap.size + 1, 0, none⟩) 0 0] 24)).alloc (.cells #[.slice A N c] 22)).alloc (.cells #[.int .i64 m] 3)
  simp only [World.size_alloc] at b2 b3 b4 hG
  have hB0 : Below w.heap.size w (((((w.alloc (.cells #[.string hd] 9)).alloc (.cells #[] 22)).alloc (.cells #[.slice (some ⟨w.heap.size + 1, 0, none⟩) 0 0] 24)).alloc (.cells #[.slice A N c] 22)).alloc (.cells #[.int .i64 m] 3)) :=
    (((((Below.refl _ _).alloc (Nat.le_refl _) _).alloc (by simp) _).alloc (by simp; omega) _).alloc (by simp; omega) _).alloc (by simp; omega) _
  have hsz : (((((w.alloc (.cells #[.string hd] 9)).alloc (.cells #[] 22)).alloc (.cells #[.slice (some ⟨w.heap.size + 1, 0, none⟩) 0 0] 24)).alloc (.cells #[.slice A N c] 22)).alloc (.cells #[.int .i64 m] 3)).heap.size = w.heap.size + 1 + 1 + 1 + 1 + 1 := by simp only [World.size_alloc]
  refine wpIn_rangeFunc_ownG rfl (by decide) (gf := 25) (lb := #[.pointer (some ⟨w.heap.size + 1 + 1 + 1, 0, none⟩), .pointer (some ⟨w.heap.size + 1 + 1 + 1 + 1, 0, none⟩)]) rfl trivial (enters_of Try.func25 (by kernel_rfl) rfl)
    (chunk_stops Fence.wide 5 trivial rfl (by decide) (w.heap.size + 1 + 1 + 1) (w.heap.size + 1 + 1 + 1 + 1) N c m A ss w hr hN2 hm1 hm2 hNc _ (by rw [hsz]; omega) (by rw [hsz]; omega) b3.cell b4.cell) KpC.trans (KpC.put (by rw [hsz]; omega) (by rw [hsz]; omega) (by rw [hsz]; omega)) (Below.refl _ _) (fun _ => rfl)
    (fun pre W => PgI w m hd pre W ∧ Below w.heap.size w W)
    (fun _ _ _ => False)
    (OwnFrom.and (PgI.own w m hd _) (ownFrom_below (Nat.le_refl _) (by rw [hsz]; omega)))
    (fun _ _ _ _ _ hs _ _ => hs)
    ⟨⟨_, 0, 0, [], b2, b0, rfl, hG, ⟨rfl, fun k p l h => by simp at h, fun k p h => by simp at h, fun j k p q _ h => by simp at h⟩, fun k h => by cases h; exact ⟨show w.heap.size + 1 ≠ w.heap.size + 3 by omega, show w.heap.size + 1 ≠ w.heap.size + 4 by omega⟩, by rw [hsz]; omega⟩, hB0⟩
    (fun x => { tmps := #[.slice A N c, .int .i64 ((m : Int) + 1), .string hd, undef, undef, .pointer (some ⟨w.heap.size, 0, none⟩), .slice none 0 0, .int .i64 0, .pointer (some ⟨w.heap.size + 1 + 1, 0, none⟩), .slice x.a x.n x.n, .slice A N c, .bool true, .bool false, .int .i64 ((m : Int) + 1), .bool true, .bool false, .bool false, .string hd, .bool true, .bool false, .bool false, .slice (some ⟨w.heap.size + 1, 0, none⟩) 0 0, .slice A N c, .int .i64 ((m : Int) + 1), .int .i64 m,
      .func (.func 25) #[] #[.pointer (some ⟨w.heap.size + 1 + 1 + 1, 0, none⟩), .pointer (some ⟨w.heap.size + 1 + 1 + 1 + 1, 0, none⟩)], .slice x.a x.n x.n, undef, undef, undef, undef, undef, undef, undef, undef], defers := [] }) ?assign ?body ?done ?stop
  case assign =>
    intro l x W K hK
    gi_wp2
    exact hK
  case body =>
    rintro l pre ⟨xa, xn, xl, xrd, xpos, xle⟩ W ⟨⟨B, n, d, ps, q1, q2, q3, q4, q5, q6, q7⟩, hB⟩ hpre
    subst q3
    have hwW := hB.size
    have hnb : ∀ e : Value.ownBlock (.slice B pre.length d) = some (w.heap.size + 1 + 1), False := fun e => (Boxed.not_row q1 (by decide) q4) e.symm
    obtain ⟨bx, ox, rfl, _⟩ := xrd.2 (by omega)
    have hc1 := q1.cell
    have hc2 := q2.cell
    have hc1d : W.drew.cell? ⟨w.heap.size + 1 + 1, 0, none⟩ = some (.slice B pre.length d) := hc1
    have hc2d : W.drew.cell? ⟨w.heap.size, 0, none⟩ = some (.string hd) := hc2
    have hal1 := fun o => (World.cell?_alloc_lt W.drew o ⟨w.heap.size + 1 + 1, 0, none⟩ (World.block_lt_of_cell? W _ hc1)).trans hc1d
    have hal2 := fun o => (World.cell?_alloc_lt W o ⟨w.heap.size + 1 + 1, 0, none⟩ (World.block_lt_of_cell? W _ hc1)).trans hc1
    have hxl : xl.length = xn := xrd.1
    have hN0 : GL strE 9 W.heap.size (W.drew.alloc (.cells #[.string hd] 9)) (.slice (some ⟨W.heap.size, 0, none⟩) 1 1) [hd] := GL.one (w := W.drew) hd (Nat.le_refl _)
    have hsrc : ∀ j u, (xl.flatMap strE.cells)[j]? = some u → (W.drew.alloc (.cells #[.string hd] 9)).cell? ((⟨bx, ox, none⟩ : Addr).add j) = some u := by
      obtain ⟨ad, e1, h9⟩ := ((xrd.below hB).drew.alloc (.cells #[.string hd] 9)).src (by omega)
      cases e1
      exact h9
    have hafter4 : ∀ w4, (W.drew.alloc (.cells #[.string hd] 9)).grownBy w4 (Value.ownBlock (.slice (some ⟨W.heap.size, 0, none⟩) 1 1)) → Below W.heap.size W w4 ∧ w4.cell? ⟨w.heap.size + 1 + 1, 0, none⟩ = some (.slice B pre.length d) ∧ W.heap.size ≤ w4.heap.size := fun w4 hg => by
      have h9 : Below W.heap.size W w4 := ((Below.refl _ W).drew.alloc (Nat.le_refl _) (.cells #[.string hd] 9)).grown hg (by simp) (fun k e => by cases e; exact Nat.le_refl _)
      exact ⟨h9, (h9.cell (p := ⟨w.heap.size + 1 + 1, 0, none⟩) (World.block_lt_of_cell? W _ hc1)).trans hc1, h9.size⟩
    have hafter6 : ∀ w4 o w6, Below W.heap.size W w4 → Touch (fun k => Value.ownBlock (.slice B pre.length d) = some k) (w4.alloc o) w6 → w6.cell? ⟨w.heap.size + 1 + 1, 0, none⟩ = some (.slice B pre.length d) ∧ w6.frozen? ⟨w.heap.size + 1 + 1, 0, none⟩ = false := fun w4 o w6 hB4 ht => by
      have h8 : Below W.heap.size W (w4.alloc o) := hB4.alloc hB4.size o
      have hl := World.block_lt_of_cell? W _ hc1
      exact ⟨touch_cell ht (fun e => hnb e) ((h8.cell (p := ⟨w.heap.size + 1 + 1, 0, none⟩) hl).trans hc1), free_touch (p := ⟨w.heap.size + 1 + 1, 0, none⟩) (free_later q1.frozen hl h8) (by have := h8.size; simp only at hl ⊢; omega) (fun e => hnb e) ht⟩
    gi_wp2
    refine wpIn_region_any (by kernel_rfl) ?_
    show wpAnyIn _ _ _ _ _ _ 8 (Array.replicate 8 false) _ W.drew
    -- BODY
    refine wpAnyIn_ready (rs := [0, 1, 3]) (by kernel_rfl) (by simp) ?_
    refine AllReadyIn.cons rfl (fun K hK => ?_) (AllReadyIn.cons rfl (fun K hK => ?_) (AllReadyIn.cons rfl (fun K hK => ?_) AllReadyIn.nil))
    · skip
      go_simp
      refine hK _ _ ?_
      clear hK K
      try simp only [List.getElem_toArray, List.getElem_cons_succ, List.getElem_cons_zero, Act.put, List.setIfInBounds_toArray, List.set_cons_zero, List.set_cons_succ]
      refine wpAnyIn_ready (rs := [1, 3]) (by kernel_rfl) (by simp) ?_
      refine AllReadyIn.cons rfl (fun K hK => ?_) (AllReadyIn.cons rfl (fun K hK => ?_) AllReadyIn.nil)
      · skip
        go_simp
        refine hK _ _ ?_
        clear hK K
        try simp only [List.getElem_toArray, List.getElem_cons_succ, List.getElem_cons_zero, Act.put, List.setIfInBounds_toArray, List.set_cons_zero, List.set_cons_succ]
        refine wpAnyIn_ready (rs := [2, 3]) (by kernel_rfl) (by simp) ?_
        refine AllReadyIn.cons rfl (fun K hK => ?_) (AllReadyIn.cons rfl (fun K hK => ?_) AllReadyIn.nil)
        · skip
          go_simp
          refine hK _ _ ?_
          clear hK K
          try simp only [List.getElem_toArray, List.getElem_cons_succ, List.getElem_cons_zero, Act.put, List.setIfInBounds_toArray, List.set_cons_zero, List.set_cons_succ]
          refine wpAnyIn_ready (rs := [3]) (by kernel_rfl) (by simp) ?_
          refine AllReadyIn.cons rfl (fun K hK => ?_) AllReadyIn.nil
          go_simp
          refine hK _ _ ?_
          clear hK K
          try simp only [List.getElem_toArray, List.getElem_cons_succ, List.getElem_cons_zero, Act.put, List.setIfInBounds_toArray, List.set_cons_zero, List.set_cons_succ]
          refine wpAnyIn_ready (rs := [4]) (by kernel_rfl) (by simp) ?_
          refine AllReadyIn.cons rfl (fun K hK => ?_) AllReadyIn.nil
          refine step_pushL_in strE rfl _ _ 22 rfl W.heap.size 9 i0 _ 16 Try.underlying22 hi hz0 HI.out.1 HI.out.2 rfl (.slice (some ⟨W.heap.size, 0, none⟩) 1 1) [hd] xl rfl hN0 ⟨bx, ox, none⟩ xn xn rfl hxl hsrc (by simp; omega) (by decide) (by simp) ?_
          intro A4 c4 w4 hgl4 hg4
          obtain ⟨hB4, hc4, hb4⟩ := hafter4 _ hg4
          have hal4 := fun o => (World.cell?_alloc_lt w4 o ⟨w.heap.size + 1 + 1, 0, none⟩ (World.block_lt_of_cell? w4 _ hc4)).trans hc4
          refine hK _ _ ?_
          clear hK K
          try simp only [List.getElem_toArray, List.getElem_cons_succ, List.getElem_cons_zero, Act.put, List.setIfInBounds_toArray, List.set_cons_zero, List.set_cons_succ]
          refine wpAnyIn_ready (rs := [5]) (by kernel_rfl) (by simp) ?_
          refine AllReadyIn.cons rfl (fun K hK => ?_) AllReadyIn.nil
          go_simp
          refine hK _ _ ?_
          clear hK K
          try simp only [List.getElem_toArray, List.getElem_cons_succ, List.getElem_cons_zero, Act.put, List.setIfInBounds_toArray, List.set_cons_zero, List.set_cons_succ]
          refine wpAnyIn_ready (rs := [6]) (by kernel_rfl) (by simp) ?_
          refine AllReadyIn.cons rfl (fun K hK => ?_) AllReadyIn.nil
          refine step_pushO_in slE rfl _ _ 24 rfl (w.heap.size + 1) 22 j0 _ 24 Try.underlying24 gi gz0 GI.out.1 GI.out.2 rfl B pre.length d ps ⟨A4, _, c4⟩ rfl ((q4.below hB4).alloc _) w4.heap.size rfl (range_new _ _ _) (by omega) (by decide) (by have := hB4.size; simp; omega) ?_
          intro B6 d6 w6 hgl6 ht6 hn6
          obtain ⟨hc6, hf6⟩ := hafter6 w4 _ w6 hB4 ht6
          refine hK _ _ ?_
          clear hK K
          try simp only [List.getElem_toArray, List.getElem_cons_succ, List.getElem_cons_zero, Act.put, List.setIfInBounds_toArray, List.set_cons_zero, List.set_cons_succ]
          refine wpAnyIn_ready (rs := [7]) (by kernel_rfl) (by simp) ?_
          refine AllReadyIn.cons rfl (fun K hK => ?_) AllReadyIn.nil
          go_simp
          refine hK _ _ ?_
          clear hK K
          try simp only [List.getElem_toArray, List.getElem_cons_succ, List.getElem_cons_zero, Act.put, List.setIfInBounds_toArray, List.set_cons_zero, List.set_cons_succ]
          refine wpAnyIn_done (by kernel_rfl) ?_ _
          exact leaf_ok (x := ⟨_, xn, xl, xrd, xpos, xle⟩) q1 q2 q4 q5 q6 q7 hB hgl4 hB4 _ hgl6 ht6 hn6
        · skip
          go_simp
          refine hK _ _ ?_
          clear hK K
          try simp only [List.getElem_toArray, List.getElem_cons_succ, List.getElem_cons_zero, Act.put, List.setIfInBounds_toArray, List.set_cons_zero, List.set_cons_succ]
          refine wpAnyIn_ready (rs := [2]) (by kernel_rfl) (by simp) ?_
          refine AllReadyIn.cons rfl (fun K hK => ?_) AllReadyIn.nil
          go_simp
          refine hK _ _ ?_
          clear hK K
          try simp only [List.getElem_toArray, List.getElem_cons_succ, List.getElem_cons_zero, Act.put, List.setIfInBounds_toArray, List.set_cons_zero, List.set_cons_succ]
          refine wpAnyIn_ready (rs := [4]) (by kernel_rfl) (by simp) ?_
          refine AllReadyIn.cons rfl (fun K hK => ?_) AllReadyIn.nil
          refine step_pushL_in strE rfl _ _ 22 rfl W.heap.size 9 i0 _ 16 Try.underlying22 hi hz0 HI.out.1 HI.out.2 rfl (.slice (some ⟨W.heap.size, 0, none⟩) 1 1) [hd] xl rfl hN0 ⟨bx, ox, none⟩ xn xn rfl hxl hsrc (by simp; omega) (by decide) (by simp) ?_
          intro A4 c4 w4 hgl4 hg4
          obtain ⟨hB4, hc4, hb4⟩ := hafter4 _ hg4
          have hal4 := fun o => (World.cell?_alloc_lt w4 o ⟨w.heap.size + 1 + 1, 0, none⟩ (World.block_lt_of_cell? w4 _ hc4)).trans hc4
          refine hK _ _ ?_
          clear hK K
          try simp only [List.getElem_toArray, List.getElem_cons_succ, List.getElem_cons_zero, Act.put, List.setIfInBounds_toArray, List.set_cons_zero, List.set_cons_succ]
          refine wpAnyIn_ready (rs := [5]) (by kernel_rfl) (by simp) ?_
          refine AllReadyIn.cons rfl (fun K hK => ?_) AllReadyIn.nil
          go_simp
          refine hK _ _ ?_
          clear hK K
          try simp only [List.getElem_toArray, List.getElem_cons_succ, List.getElem_cons_zero, Act.put, List.setIfInBounds_toArray, List.set_cons_zero, List.set_cons_succ]
          refine wpAnyIn_ready (rs := [6]) (by kernel_rfl) (by simp) ?_
          refine AllReadyIn.cons rfl (fun K hK => ?_) AllReadyIn.nil
          refine step_pushO_in slE rfl _ _ 24 rfl (w.heap.size + 1) 22 j0 _ 24 Try.underlying24 gi gz0 GI.out.1 GI.out.2 rfl B pre.length d ps ⟨A4, _, c4⟩ rfl ((q4.below hB4).alloc _) w4.heap.size rfl (range_new _ _ _) (by omega) (by decide) (by have := hB4.size; simp; omega) ?_
          intro B6 d6 w6 hgl6 ht6 hn6
          obtain ⟨hc6, hf6⟩ := hafter6 w4 _ w6 hB4 ht6
          refine hK _ _ ?_
          clear hK K
          try simp only [List.getElem_toArray, List.getElem_cons_succ, List.getElem_cons_zero, Act.put, List.setIfInBounds_toArray, List.set_cons_zero, List.set_cons_succ]
          refine wpAnyIn_ready (rs := [7]) (by kernel_rfl) (by simp) ?_
          refine AllReadyIn.cons rfl (fun K hK => ?_) AllReadyIn.nil
          go_simp
          refine hK _ _ ?_
          clear hK K
          try simp only [List.getElem_toArray, List.getElem_cons_succ, List.getElem_cons_zero, Act.put, List.setIfInBounds_toArray, List.set_cons_zero, List.set_cons_succ]
          refine wpAnyIn_done (by kernel_rfl) ?_ _
          exact leaf_ok (x := ⟨_, xn, xl, xrd, xpos, xle⟩) q1 q2 q4 q5 q6 q7 hB hgl4 hB4 _ hgl6 ht6 hn6
      · skip
        go_simp
        refine hK _ _ ?_
        clear hK K
        try simp only [List.getElem_toArray, List.getElem_cons_succ, List.getElem_cons_zero, Act.put, List.setIfInBounds_toArray, List.set_cons_zero, List.set_cons_succ]
        refine wpAnyIn_ready (rs := [1]) (by kernel_rfl) (by simp) ?_
        refine AllReadyIn.cons rfl (fun K hK => ?_) AllReadyIn.nil
        go_simp
        refine hK _ _ ?_
        clear hK K
        try simp only [List.getElem_toArray, List.getElem_cons_succ, List.getElem_cons_zero, Act.put, List.setIfInBounds_toArray, List.set_cons_zero, List.set_cons_succ]
        refine wpAnyIn_ready (rs := [2]) (by kernel_rfl) (by simp) ?_
        refine AllReadyIn.cons rfl (fun K hK => ?_) AllReadyIn.nil
        go_simp
        refine hK _ _ ?_
        clear hK K
        try simp only [List.getElem_toArray, List.getElem_cons_succ, List.getElem_cons_zero, Act.put, List.setIfInBounds_toArray, List.set_cons_zero, List.set_cons_succ]
        refine wpAnyIn_ready (rs := [4]) (by kernel_rfl) (by simp) ?_
        refine AllReadyIn.cons rfl (fun K hK => ?_) AllReadyIn.nil
        refine step_pushL_in strE rfl _ _ 22 rfl W.heap.size 9 i0 _ 16 Try.underlying22 hi hz0 HI.out.1 HI.out.2 rfl (.slice (some ⟨W.heap.size, 0, none⟩) 1 1) [hd] xl rfl hN0 ⟨bx, ox, none⟩ xn xn rfl hxl hsrc (by simp; omega) (by decide) (by simp) ?_
        intro A4 c4 w4 hgl4 hg4
        obtain ⟨hB4, hc4, hb4⟩ := hafter4 _ hg4
        have hal4 := fun o => (World.cell?_alloc_lt w4 o ⟨w.heap.size + 1 + 1, 0, none⟩ (World.block_lt_of_cell? w4 _ hc4)).trans hc4
        refine hK _ _ ?_
        clear hK K
        try simp only [List.getElem_toArray, List.getElem_cons_succ, List.getElem_cons_zero, Act.put, List.setIfInBounds_toArray, List.set_cons_zero, List.set_cons_succ]
        refine wpAnyIn_ready (rs := [5]) (by kernel_rfl) (by simp) ?_
        refine AllReadyIn.cons rfl (fun K hK => ?_) AllReadyIn.nil
        go_simp
        refine hK _ _ ?_
        clear hK K
        try simp only [List.getElem_toArray, List.getElem_cons_succ, List.getElem_cons_zero, Act.put, List.setIfInBounds_toArray, List.set_cons_zero, List.set_cons_succ]
        refine wpAnyIn_ready (rs := [6]) (by kernel_rfl) (by simp) ?_
        refine AllReadyIn.cons rfl (fun K hK => ?_) AllReadyIn.nil
        refine step_pushO_in slE rfl _ _ 24 rfl (w.heap.size + 1) 22 j0 _ 24 Try.underlying24 gi gz0 GI.out.1 GI.out.2 rfl B pre.length d ps ⟨A4, _, c4⟩ rfl ((q4.below hB4).alloc _) w4.heap.size rfl (range_new _ _ _) (by omega) (by decide) (by have := hB4.size; simp; omega) ?_
        intro B6 d6 w6 hgl6 ht6 hn6
        obtain ⟨hc6, hf6⟩ := hafter6 w4 _ w6 hB4 ht6
        refine hK _ _ ?_
        clear hK K
        try simp only [List.getElem_toArray, List.getElem_cons_succ, List.getElem_cons_zero, Act.put, List.setIfInBounds_toArray, List.set_cons_zero, List.set_cons_succ]
        refine wpAnyIn_ready (rs := [7]) (by kernel_rfl) (by simp) ?_
        refine AllReadyIn.cons rfl (fun K hK => ?_) AllReadyIn.nil
        go_simp
        refine hK _ _ ?_
        clear hK K
        try simp only [List.getElem_toArray, List.getElem_cons_succ, List.getElem_cons_zero, Act.put, List.setIfInBounds_toArray, List.set_cons_zero, List.set_cons_succ]
        refine wpAnyIn_done (by kernel_rfl) ?_ _
        exact leaf_ok (x := ⟨_, xn, xl, xrd, xpos, xle⟩) q1 q2 q4 q5 q6 q7 hB hgl4 hB4 _ hgl6 ht6 hn6
    · skip
      go_simp
      refine hK _ _ ?_
      clear hK K
      try simp only [List.getElem_toArray, List.getElem_cons_succ, List.getElem_cons_zero, Act.put, List.setIfInBounds_toArray, List.set_cons_zero, List.set_cons_succ]
      refine wpAnyIn_ready (rs := [0, 2, 3]) (by kernel_rfl) (by simp) ?_
      refine AllReadyIn.cons rfl (fun K hK => ?_) (AllReadyIn.cons rfl (fun K hK => ?_) (AllReadyIn.cons rfl (fun K hK => ?_) AllReadyIn.nil))
      · skip
        go_simp
        refine hK _ _ ?_
        clear hK K
        try simp only [List.getElem_toArray, List.getElem_cons_succ, List.getElem_cons_zero, Act.put, List.setIfInBounds_toArray, List.set_cons_zero, List.set_cons_succ]
        refine wpAnyIn_ready (rs := [2, 3]) (by kernel_rfl) (by simp) ?_
        refine AllReadyIn.cons rfl (fun K hK => ?_) (AllReadyIn.cons rfl (fun K hK => ?_) AllReadyIn.nil)
        · skip
          go_simp
          refine hK _ _ ?_
          clear hK K
          try simp only [List.getElem_toArray, List.getElem_cons_succ, List.getElem_cons_zero, Act.put, List.setIfInBounds_toArray, List.set_cons_zero, List.set_cons_succ]
          refine wpAnyIn_ready (rs := [3]) (by kernel_rfl) (by simp) ?_
          refine AllReadyIn.cons rfl (fun K hK => ?_) AllReadyIn.nil
          go_simp
          refine hK _ _ ?_
          clear hK K
          try simp only [List.getElem_toArray, List.getElem_cons_succ, List.getElem_cons_zero, Act.put, List.setIfInBounds_toArray, List.set_cons_zero, List.set_cons_succ]
          refine wpAnyIn_ready (rs := [4]) (by kernel_rfl) (by simp) ?_
          refine AllReadyIn.cons rfl (fun K hK => ?_) AllReadyIn.nil
          refine step_pushL_in strE rfl _ _ 22 rfl W.heap.size 9 i0 _ 16 Try.underlying22 hi hz0 HI.out.1 HI.out.2 rfl (.slice (some ⟨W.heap.size, 0, none⟩) 1 1) [hd] xl rfl hN0 ⟨bx, ox, none⟩ xn xn rfl hxl hsrc (by simp; omega) (by decide) (by simp) ?_
          intro A4 c4 w4 hgl4 hg4
          obtain ⟨hB4, hc4, hb4⟩ := hafter4 _ hg4
          have hal4 := fun o => (World.cell?_alloc_lt w4 o ⟨w.heap.size + 1 + 1, 0, none⟩ (World.block_lt_of_cell? w4 _ hc4)).trans hc4
          refine hK _ _ ?_
          clear hK K
          try simp only [List.getElem_toArray, List.getElem_cons_succ, List.getElem_cons_zero, Act.put, List.setIfInBounds_toArray, List.set_cons_zero, List.set_cons_succ]
          refine wpAnyIn_ready (rs := [5]) (by kernel_rfl) (by simp) ?_
          refine AllReadyIn.cons rfl (fun K hK => ?_) AllReadyIn.nil
          go_simp
          refine hK _ _ ?_
          clear hK K
          try simp only [List.getElem_toArray, List.getElem_cons_succ, List.getElem_cons_zero, Act.put, List.setIfInBounds_toArray, List.set_cons_zero, List.set_cons_succ]
          refine wpAnyIn_ready (rs := [6]) (by kernel_rfl) (by simp) ?_
          refine AllReadyIn.cons rfl (fun K hK => ?_) AllReadyIn.nil
          refine step_pushO_in slE rfl _ _ 24 rfl (w.heap.size + 1) 22 j0 _ 24 Try.underlying24 gi gz0 GI.out.1 GI.out.2 rfl B pre.length d ps ⟨A4, _, c4⟩ rfl ((q4.below hB4).alloc _) w4.heap.size rfl (range_new _ _ _) (by omega) (by decide) (by have := hB4.size; simp; omega) ?_
          intro B6 d6 w6 hgl6 ht6 hn6
          obtain ⟨hc6, hf6⟩ := hafter6 w4 _ w6 hB4 ht6
          refine hK _ _ ?_
          clear hK K
          try simp only [List.getElem_toArray, List.getElem_cons_succ, List.getElem_cons_zero, Act.put, List.setIfInBounds_toArray, List.set_cons_zero, List.set_cons_succ]
          refine wpAnyIn_ready (rs := [7]) (by kernel_rfl) (by simp) ?_
          refine AllReadyIn.cons rfl (fun K hK => ?_) AllReadyIn.nil
          go_simp
          refine hK _ _ ?_
          clear hK K
          try simp only [List.getElem_toArray, List.getElem_cons_succ, List.getElem_cons_zero, Act.put, List.setIfInBounds_toArray, List.set_cons_zero, List.set_cons_succ]
          refine wpAnyIn_done (by kernel_rfl) ?_ _
          exact leaf_ok (x := ⟨_, xn, xl, xrd, xpos, xle⟩) q1 q2 q4 q5 q6 q7 hB hgl4 hB4 _ hgl6 ht6 hn6
        · skip
          go_simp
          refine hK _ _ ?_
          clear hK K
          try simp only [List.getElem_toArray, List.getElem_cons_succ, List.getElem_cons_zero, Act.put, List.setIfInBounds_toArray, List.set_cons_zero, List.set_cons_succ]
          refine wpAnyIn_ready (rs := [2]) (by kernel_rfl) (by simp) ?_
          refine AllReadyIn.cons rfl (fun K hK => ?_) AllReadyIn.nil
          go_simp
          refine hK _ _ ?_
          clear hK K
          try simp only [List.getElem_toArray, List.getElem_cons_succ, List.getElem_cons_zero, Act.put, List.setIfInBounds_toArray, List.set_cons_zero, List.set_cons_succ]
          refine wpAnyIn_ready (rs := [4]) (by kernel_rfl) (by simp) ?_
          refine AllReadyIn.cons rfl (fun K hK => ?_) AllReadyIn.nil
          refine step_pushL_in strE rfl _ _ 22 rfl W.heap.size 9 i0 _ 16 Try.underlying22 hi hz0 HI.out.1 HI.out.2 rfl (.slice (some ⟨W.heap.size, 0, none⟩) 1 1) [hd] xl rfl hN0 ⟨bx, ox, none⟩ xn xn rfl hxl hsrc (by simp; omega) (by decide) (by simp) ?_
          intro A4 c4 w4 hgl4 hg4
          obtain ⟨hB4, hc4, hb4⟩ := hafter4 _ hg4
          have hal4 := fun o => (World.cell?_alloc_lt w4 o ⟨w.heap.size + 1 + 1, 0, none⟩ (World.block_lt_of_cell? w4 _ hc4)).trans hc4
          refine hK _ _ ?_
          clear hK K
          try simp only [List.getElem_toArray, List.getElem_cons_succ, List.getElem_cons_zero, Act.put, List.setIfInBounds_toArray, List.set_cons_zero, List.set_cons_succ]
          refine wpAnyIn_ready (rs := [5]) (by kernel_rfl) (by simp) ?_
          refine AllReadyIn.cons rfl (fun K hK => ?_) AllReadyIn.nil
          go_simp
          refine hK _ _ ?_
          clear hK K
          try simp only [List.getElem_toArray, List.getElem_cons_succ, List.getElem_cons_zero, Act.put, List.setIfInBounds_toArray, List.set_cons_zero, List.set_cons_succ]
          refine wpAnyIn_ready (rs := [6]) (by kernel_rfl) (by simp) ?_
          refine AllReadyIn.cons rfl (fun K hK => ?_) AllReadyIn.nil
          refine step_pushO_in slE rfl _ _ 24 rfl (w.heap.size + 1) 22 j0 _ 24 Try.underlying24 gi gz0 GI.out.1 GI.out.2 rfl B pre.length d ps ⟨A4, _, c4⟩ rfl ((q4.below hB4).alloc _) w4.heap.size rfl (range_new _ _ _) (by omega) (by decide) (by have := hB4.size; simp; omega) ?_
          intro B6 d6 w6 hgl6 ht6 hn6
          obtain ⟨hc6, hf6⟩ := hafter6 w4 _ w6 hB4 ht6
          refine hK _ _ ?_
          clear hK K
          try simp only [List.getElem_toArray, List.getElem_cons_succ, List.getElem_cons_zero, Act.put, List.setIfInBounds_toArray, List.set_cons_zero, List.set_cons_succ]
          refine wpAnyIn_ready (rs := [7]) (by kernel_rfl) (by simp) ?_
          refine AllReadyIn.cons rfl (fun K hK => ?_) AllReadyIn.nil
          go_simp
          refine hK _ _ ?_
          clear hK K
          try simp only [List.getElem_toArray, List.getElem_cons_succ, List.getElem_cons_zero, Act.put, List.setIfInBounds_toArray, List.set_cons_zero, List.set_cons_succ]
          refine wpAnyIn_done (by kernel_rfl) ?_ _
          exact leaf_ok (x := ⟨_, xn, xl, xrd, xpos, xle⟩) q1 q2 q4 q5 q6 q7 hB hgl4 hB4 _ hgl6 ht6 hn6
      · skip
        go_simp
        refine hK _ _ ?_
        clear hK K
        try simp only [List.getElem_toArray, List.getElem_cons_succ, List.getElem_cons_zero, Act.put, List.setIfInBounds_toArray, List.set_cons_zero, List.set_cons_succ]
        refine wpAnyIn_ready (rs := [0, 3]) (by kernel_rfl) (by simp) ?_
        refine AllReadyIn.cons rfl (fun K hK => ?_) (AllReadyIn.cons rfl (fun K hK => ?_) AllReadyIn.nil)
        · skip
          go_simp
          refine hK _ _ ?_
          clear hK K
          try simp only [List.getElem_toArray, List.getElem_cons_succ, List.getElem_cons_zero, Act.put, List.setIfInBounds_toArray, List.set_cons_zero, List.set_cons_succ]
          refine wpAnyIn_ready (rs := [3]) (by kernel_rfl) (by simp) ?_
          refine AllReadyIn.cons rfl (fun K hK => ?_) AllReadyIn.nil
          go_simp
          refine hK _ _ ?_
          clear hK K
          try simp only [List.getElem_toArray, List.getElem_cons_succ, List.getElem_cons_zero, Act.put, List.setIfInBounds_toArray, List.set_cons_zero, List.set_cons_succ]
          refine wpAnyIn_ready (rs := [4]) (by kernel_rfl) (by simp) ?_
          refine AllReadyIn.cons rfl (fun K hK => ?_) AllReadyIn.nil
          refine step_pushL_in strE rfl _ _ 22 rfl W.heap.size 9 i0 _ 16 Try.underlying22 hi hz0 HI.out.1 HI.out.2 rfl (.slice (some ⟨W.heap.size, 0, none⟩) 1 1) [hd] xl rfl hN0 ⟨bx, ox, none⟩ xn xn rfl hxl hsrc (by simp; omega) (by decide) (by simp) ?_
          intro A4 c4 w4 hgl4 hg4
          obtain ⟨hB4, hc4, hb4⟩ := hafter4 _ hg4
          have hal4 := fun o => (World.cell?_alloc_lt w4 o ⟨w.heap.size + 1 + 1, 0, none⟩ (World.block_lt_of_cell? w4 _ hc4)).trans hc4
          refine hK _ _ ?_
          clear hK K
          try simp only [List.getElem_toArray, List.getElem_cons_succ, List.getElem_cons_zero, Act.put, List.setIfInBounds_toArray, List.set_cons_zero, List.set_cons_succ]
          refine wpAnyIn_ready (rs := [5]) (by kernel_rfl) (by simp) ?_
          refine AllReadyIn.cons rfl (fun K hK => ?_) AllReadyIn.nil
          go_simp
          refine hK _ _ ?_
          clear hK K
          try simp only [List.getElem_toArray, List.getElem_cons_succ, List.getElem_cons_zero, Act.put, List.setIfInBounds_toArray, List.set_cons_zero, List.set_cons_succ]
          refine wpAnyIn_ready (rs := [6]) (by kernel_rfl) (by simp) ?_
          refine AllReadyIn.cons rfl (fun K hK => ?_) AllReadyIn.nil
          refine step_pushO_in slE rfl _ _ 24 rfl (w.heap.size + 1) 22 j0 _ 24 Try.underlying24 gi gz0 GI.out.1 GI.out.2 rfl B pre.length d ps ⟨A4, _, c4⟩ rfl ((q4.below hB4).alloc _) w4.heap.size rfl (range_new _ _ _) (by omega) (by decide) (by have := hB4.size; simp; omega) ?_
          intro B6 d6 w6 hgl6 ht6 hn6
          obtain ⟨hc6, hf6⟩ := hafter6 w4 _ w6 hB4 ht6
          refine hK _ _ ?_
          clear hK K
          try simp only [List.getElem_toArray, List.getElem_cons_succ, List.getElem_cons_zero, Act.put, List.setIfInBounds_toArray, List.set_cons_zero, List.set_cons_succ]
          refine wpAnyIn_ready (rs := [7]) (by kernel_rfl) (by simp) ?_
          refine AllReadyIn.cons rfl (fun K hK => ?_) AllReadyIn.nil
          go_simp
          refine hK _ _ ?_
          clear hK K
          try simp only [List.getElem_toArray, List.getElem_cons_succ, List.getElem_cons_zero, Act.put, List.setIfInBounds_toArray, List.set_cons_zero, List.set_cons_succ]
          refine wpAnyIn_done (by kernel_rfl) ?_ _
          exact leaf_ok (x := ⟨_, xn, xl, xrd, xpos, xle⟩) q1 q2 q4 q5 q6 q7 hB hgl4 hB4 _ hgl6 ht6 hn6
        · skip
          go_simp
          refine hK _ _ ?_
          clear hK K
          try simp only [List.getElem_toArray, List.getElem_cons_succ, List.getElem_cons_zero, Act.put, List.setIfInBounds_toArray, List.set_cons_zero, List.set_cons_succ]
          refine wpAnyIn_ready (rs := [0, 4]) (by kernel_rfl) (by simp) ?_
          refine AllReadyIn.cons rfl (fun K hK => ?_) (AllReadyIn.cons rfl (fun K hK => ?_) AllReadyIn.nil)
          · skip
            go_simp
            refine hK _ _ ?_
            clear hK K
            try simp only [List.getElem_toArray, List.getElem_cons_succ, List.getElem_cons_zero, Act.put, List.setIfInBounds_toArray, List.set_cons_zero, List.set_cons_succ]
            refine wpAnyIn_ready (rs := [4]) (by kernel_rfl) (by simp) ?_
            refine AllReadyIn.cons rfl (fun K hK => ?_) AllReadyIn.nil
            refine step_pushL_in strE rfl _ _ 22 rfl W.heap.size 9 i0 _ 16 Try.underlying22 hi hz0 HI.out.1 HI.out.2 rfl (.slice (some ⟨W.heap.size, 0, none⟩) 1 1) [hd] xl rfl hN0 ⟨bx, ox, none⟩ xn xn rfl hxl hsrc (by simp; omega) (by decide) (by simp) ?_
            intro A4 c4 w4 hgl4 hg4
            obtain ⟨hB4, hc4, hb4⟩ := hafter4 _ hg4
            have hal4 := fun o => (World.cell?_alloc_lt w4 o ⟨w.heap.size + 1 + 1, 0, none⟩ (World.block_lt_of_cell? w4 _ hc4)).trans hc4
            refine hK _ _ ?_
            clear hK K
            try simp only [List.getElem_toArray, List.getElem_cons_succ, List.getElem_cons_zero, Act.put, List.setIfInBounds_toArray, List.set_cons_zero, List.set_cons_succ]
            refine wpAnyIn_ready (rs := [5]) (by kernel_rfl) (by simp) ?_
            refine AllReadyIn.cons rfl (fun K hK => ?_) AllReadyIn.nil
            go_simp
            refine hK _ _ ?_
            clear hK K
            try simp only [List.getElem_toArray, List.getElem_cons_succ, List.getElem_cons_zero, Act.put, List.setIfInBounds_toArray, List.set_cons_zero, List.set_cons_succ]
            refine wpAnyIn_ready (rs := [6]) (by kernel_rfl) (by simp) ?_
            refine AllReadyIn.cons rfl (fun K hK => ?_) AllReadyIn.nil
            refine step_pushO_in slE rfl _ _ 24 rfl (w.heap.size + 1) 22 j0 _ 24 Try.underlying24 gi gz0 GI.out.1 GI.out.2 rfl B pre.length d ps ⟨A4, _, c4⟩ rfl ((q4.below hB4).alloc _) w4.heap.size rfl (range_new _ _ _) (by omega) (by decide) (by have := hB4.size; simp; omega) ?_
            intro B6 d6 w6 hgl6 ht6 hn6
            obtain ⟨hc6, hf6⟩ := hafter6 w4 _ w6 hB4 ht6
            refine hK _ _ ?_
            clear hK K
            try simp only [List.getElem_toArray, List.getElem_cons_succ, List.getElem_cons_zero, Act.put, List.setIfInBounds_toArray, List.set_cons_zero, List.set_cons_succ]
            refine wpAnyIn_ready (rs := [7]) (by kernel_rfl) (by simp) ?_
            refine AllReadyIn.cons rfl (fun K hK => ?_) AllReadyIn.nil
            go_simp
            refine hK _ _ ?_
            clear hK K
            try simp only [List.getElem_toArray, List.getElem_cons_succ, List.getElem_cons_zero, Act.put, List.setIfInBounds_toArray, List.set_cons_zero, List.set_cons_succ]
            refine wpAnyIn_done (by kernel_rfl) ?_ _
            exact leaf_ok (x := ⟨_, xn, xl, xrd, xpos, xle⟩) q1 q2 q4 q5 q6 q7 hB hgl4 hB4 _ hgl6 ht6 hn6
          · skip
            refine step_pushL_in strE rfl _ _ 22 rfl W.heap.size 9 i0 _ 16 Try.underlying22 hi hz0 HI.out.1 HI.out.2 rfl (.slice (some ⟨W.heap.size, 0, none⟩) 1 1) [hd] xl rfl hN0 ⟨bx, ox, none⟩ xn xn rfl hxl hsrc (by simp; omega) (by decide) (by simp) ?_
            intro A4 c4 w4 hgl4 hg4
            obtain ⟨hB4, hc4, hb4⟩ := hafter4 _ hg4
            have hal4 := fun o => (World.cell?_alloc_lt w4 o ⟨w.heap.size + 1 + 1, 0, none⟩ (World.block_lt_of_cell? w4 _ hc4)).trans hc4
            refine hK _ _ ?_
            clear hK K
            try simp only [List.getElem_toArray, List.getElem_cons_succ, List.getElem_cons_zero, Act.put, List.setIfInBounds_toArray, List.set_cons_zero, List.set_cons_succ]
            refine wpAnyIn_ready (rs := [0, 5]) (by kernel_rfl) (by simp) ?_
            refine AllReadyIn.cons rfl (fun K hK => ?_) (AllReadyIn.cons rfl (fun K hK => ?_) AllReadyIn.nil)
            · skip
              go_simp
              refine hK _ _ ?_
              clear hK K
              try simp only [List.getElem_toArray, List.getElem_cons_succ, List.getElem_cons_zero, Act.put, List.setIfInBounds_toArray, List.set_cons_zero, List.set_cons_succ]
              refine wpAnyIn_ready (rs := [5]) (by kernel_rfl) (by simp) ?_
              refine AllReadyIn.cons rfl (fun K hK => ?_) AllReadyIn.nil
              go_simp
              refine hK _ _ ?_
              clear hK K
              try simp only [List.getElem_toArray, List.getElem_cons_succ, List.getElem_cons_zero, Act.put, List.setIfInBounds_toArray, List.set_cons_zero, List.set_cons_succ]
              refine wpAnyIn_ready (rs := [6]) (by kernel_rfl) (by simp) ?_
              refine AllReadyIn.cons rfl (fun K hK => ?_) AllReadyIn.nil
              refine step_pushO_in slE rfl _ _ 24 rfl (w.heap.size + 1) 22 j0 _ 24 Try.underlying24 gi gz0 GI.out.1 GI.out.2 rfl B pre.length d ps ⟨A4, _, c4⟩ rfl ((q4.below hB4).alloc _) w4.heap.size rfl (range_new _ _ _) (by omega) (by decide) (by have := hB4.size; simp; omega) ?_
              intro B6 d6 w6 hgl6 ht6 hn6
              obtain ⟨hc6, hf6⟩ := hafter6 w4 _ w6 hB4 ht6
              refine hK _ _ ?_
              clear hK K
              try simp only [List.getElem_toArray, List.getElem_cons_succ, List.getElem_cons_zero, Act.put, List.setIfInBounds_toArray, List.set_cons_zero, List.set_cons_succ]
              refine wpAnyIn_ready (rs := [7]) (by kernel_rfl) (by simp) ?_
              refine AllReadyIn.cons rfl (fun K hK => ?_) AllReadyIn.nil
              go_simp
              refine hK _ _ ?_
              clear hK K
              try simp only [List.getElem_toArray, List.getElem_cons_succ, List.getElem_cons_zero, Act.put, List.setIfInBounds_toArray, List.set_cons_zero, List.set_cons_succ]
              refine wpAnyIn_done (by kernel_rfl) ?_ _
              exact leaf_ok (x := ⟨_, xn, xl, xrd, xpos, xle⟩) q1 q2 q4 q5 q6 q7 hB hgl4 hB4 _ hgl6 ht6 hn6
            · skip
              go_simp
              refine hK _ _ ?_
              clear hK K
              try simp only [List.getElem_toArray, List.getElem_cons_succ, List.getElem_cons_zero, Act.put, List.setIfInBounds_toArray, List.set_cons_zero, List.set_cons_succ]
              refine wpAnyIn_ready (rs := [0]) (by kernel_rfl) (by simp) ?_
              refine AllReadyIn.cons rfl (fun K hK => ?_) AllReadyIn.nil
              go_simp
              refine hK _ _ ?_
              clear hK K
              try simp only [List.getElem_toArray, List.getElem_cons_succ, List.getElem_cons_zero, Act.put, List.setIfInBounds_toArray, List.set_cons_zero, List.set_cons_succ]
              refine wpAnyIn_ready (rs := [6]) (by kernel_rfl) (by simp) ?_
              refine AllReadyIn.cons rfl (fun K hK => ?_) AllReadyIn.nil
              refine step_pushO_in slE rfl _ _ 24 rfl (w.heap.size + 1) 22 j0 _ 24 Try.underlying24 gi gz0 GI.out.1 GI.out.2 rfl B pre.length d ps ⟨A4, _, c4⟩ rfl ((q4.below hB4).alloc _) w4.heap.size rfl (range_new _ _ _) (by omega) (by decide) (by have := hB4.size; simp; omega) ?_
              intro B6 d6 w6 hgl6 ht6 hn6
              obtain ⟨hc6, hf6⟩ := hafter6 w4 _ w6 hB4 ht6
              refine hK _ _ ?_
              clear hK K
              try simp only [List.getElem_toArray, List.getElem_cons_succ, List.getElem_cons_zero, Act.put, List.setIfInBounds_toArray, List.set_cons_zero, List.set_cons_succ]
              refine wpAnyIn_ready (rs := [7]) (by kernel_rfl) (by simp) ?_
              refine AllReadyIn.cons rfl (fun K hK => ?_) AllReadyIn.nil
              go_simp
              refine hK _ _ ?_
              clear hK K
              try simp only [List.getElem_toArray, List.getElem_cons_succ, List.getElem_cons_zero, Act.put, List.setIfInBounds_toArray, List.set_cons_zero, List.set_cons_succ]
              refine wpAnyIn_done (by kernel_rfl) ?_ _
              exact leaf_ok (x := ⟨_, xn, xl, xrd, xpos, xle⟩) q1 q2 q4 q5 q6 q7 hB hgl4 hB4 _ hgl6 ht6 hn6
      · skip
        go_simp
        refine hK _ _ ?_
        clear hK K
        try simp only [List.getElem_toArray, List.getElem_cons_succ, List.getElem_cons_zero, Act.put, List.setIfInBounds_toArray, List.set_cons_zero, List.set_cons_succ]
        refine wpAnyIn_ready (rs := [0, 2]) (by kernel_rfl) (by simp) ?_
        refine AllReadyIn.cons rfl (fun K hK => ?_) (AllReadyIn.cons rfl (fun K hK => ?_) AllReadyIn.nil)
        · skip
          go_simp
          refine hK _ _ ?_
          clear hK K
          try simp only [List.getElem_toArray, List.getElem_cons_succ, List.getElem_cons_zero, Act.put, List.setIfInBounds_toArray, List.set_cons_zero, List.set_cons_succ]
          refine wpAnyIn_ready (rs := [2]) (by kernel_rfl) (by simp) ?_
          refine AllReadyIn.cons rfl (fun K hK => ?_) AllReadyIn.nil
          go_simp
          refine hK _ _ ?_
          clear hK K
          try simp only [List.getElem_toArray, List.getElem_cons_succ, List.getElem_cons_zero, Act.put, List.setIfInBounds_toArray, List.set_cons_zero, List.set_cons_succ]
          refine wpAnyIn_ready (rs := [4]) (by kernel_rfl) (by simp) ?_
          refine AllReadyIn.cons rfl (fun K hK => ?_) AllReadyIn.nil
          refine step_pushL_in strE rfl _ _ 22 rfl W.heap.size 9 i0 _ 16 Try.underlying22 hi hz0 HI.out.1 HI.out.2 rfl (.slice (some ⟨W.heap.size, 0, none⟩) 1 1) [hd] xl rfl hN0 ⟨bx, ox, none⟩ xn xn rfl hxl hsrc (by simp; omega) (by decide) (by simp) ?_
          intro A4 c4 w4 hgl4 hg4
          obtain ⟨hB4, hc4, hb4⟩ := hafter4 _ hg4
          have hal4 := fun o => (World.cell?_alloc_lt w4 o ⟨w.heap.size + 1 + 1, 0, none⟩ (World.block_lt_of_cell? w4 _ hc4)).trans hc4
          refine hK _ _ ?_
          clear hK K
          try simp only [List.getElem_toArray, List.getElem_cons_succ, List.getElem_cons_zero, Act.put, List.setIfInBounds_toArray, List.set_cons_zero, List.set_cons_succ]
          refine wpAnyIn_ready (rs := [5]) (by kernel_rfl) (by simp) ?_
          refine AllReadyIn.cons rfl (fun K hK => ?_) AllReadyIn.nil
          go_simp
          refine hK _ _ ?_
          clear hK K
          try simp only [List.getElem_toArray, List.getElem_cons_succ, List.getElem_cons_zero, Act.put, List.setIfInBounds_toArray, List.set_cons_zero, List.set_cons_succ]
          refine wpAnyIn_ready (rs := [6]) (by kernel_rfl) (by simp) ?_
          refine AllReadyIn.cons rfl (fun K hK => ?_) AllReadyIn.nil
          refine step_pushO_in slE rfl _ _ 24 rfl (w.heap.size + 1) 22 j0 _ 24 Try.underlying24 gi gz0 GI.out.1 GI.out.2 rfl B pre.length d ps ⟨A4, _, c4⟩ rfl ((q4.below hB4).alloc _) w4.heap.size rfl (range_new _ _ _) (by omega) (by decide) (by have := hB4.size; simp; omega) ?_
          intro B6 d6 w6 hgl6 ht6 hn6
          obtain ⟨hc6, hf6⟩ := hafter6 w4 _ w6 hB4 ht6
          refine hK _ _ ?_
          clear hK K
          try simp only [List.getElem_toArray, List.getElem_cons_succ, List.getElem_cons_zero, Act.put, List.setIfInBounds_toArray, List.set_cons_zero, List.set_cons_succ]
          refine wpAnyIn_ready (rs := [7]) (by kernel_rfl) (by simp) ?_
          refine AllReadyIn.cons rfl (fun K hK => ?_) AllReadyIn.nil
          go_simp
          refine hK _ _ ?_
          clear hK K
          try simp only [List.getElem_toArray, List.getElem_cons_succ, List.getElem_cons_zero, Act.put, List.setIfInBounds_toArray, List.set_cons_zero, List.set_cons_succ]
          refine wpAnyIn_done (by kernel_rfl) ?_ _
          exact leaf_ok (x := ⟨_, xn, xl, xrd, xpos, xle⟩) q1 q2 q4 q5 q6 q7 hB hgl4 hB4 _ hgl6 ht6 hn6
        · skip
          go_simp
          refine hK _ _ ?_
          clear hK K
          try simp only [List.getElem_toArray, List.getElem_cons_succ, List.getElem_cons_zero, Act.put, List.setIfInBounds_toArray, List.set_cons_zero, List.set_cons_succ]
          refine wpAnyIn_ready (rs := [0, 4]) (by kernel_rfl) (by simp) ?_
          refine AllReadyIn.cons rfl (fun K hK => ?_) (AllReadyIn.cons rfl (fun K hK => ?_) AllReadyIn.nil)
          · skip
            go_simp
            refine hK _ _ ?_
            clear hK K
            try simp only [List.getElem_toArray, List.getElem_cons_succ, List.getElem_cons_zero, Act.put, List.setIfInBounds_toArray, List.set_cons_zero, List.set_cons_succ]
            refine wpAnyIn_ready (rs := [4]) (by kernel_rfl) (by simp) ?_
            refine AllReadyIn.cons rfl (fun K hK => ?_) AllReadyIn.nil
            refine step_pushL_in strE rfl _ _ 22 rfl W.heap.size 9 i0 _ 16 Try.underlying22 hi hz0 HI.out.1 HI.out.2 rfl (.slice (some ⟨W.heap.size, 0, none⟩) 1 1) [hd] xl rfl hN0 ⟨bx, ox, none⟩ xn xn rfl hxl hsrc (by simp; omega) (by decide) (by simp) ?_
            intro A4 c4 w4 hgl4 hg4
            obtain ⟨hB4, hc4, hb4⟩ := hafter4 _ hg4
            have hal4 := fun o => (World.cell?_alloc_lt w4 o ⟨w.heap.size + 1 + 1, 0, none⟩ (World.block_lt_of_cell? w4 _ hc4)).trans hc4
            refine hK _ _ ?_
            clear hK K
            try simp only [List.getElem_toArray, List.getElem_cons_succ, List.getElem_cons_zero, Act.put, List.setIfInBounds_toArray, List.set_cons_zero, List.set_cons_succ]
            refine wpAnyIn_ready (rs := [5]) (by kernel_rfl) (by simp) ?_
            refine AllReadyIn.cons rfl (fun K hK => ?_) AllReadyIn.nil
            go_simp
            refine hK _ _ ?_
            clear hK K
            try simp only [List.getElem_toArray, List.getElem_cons_succ, List.getElem_cons_zero, Act.put, List.setIfInBounds_toArray, List.set_cons_zero, List.set_cons_succ]
            refine wpAnyIn_ready (rs := [6]) (by kernel_rfl) (by simp) ?_
            refine AllReadyIn.cons rfl (fun K hK => ?_) AllReadyIn.nil
            refine step_pushO_in slE rfl _ _ 24 rfl (w.heap.size + 1) 22 j0 _ 24 Try.underlying24 gi gz0 GI.out.1 GI.out.2 rfl B pre.length d ps ⟨A4, _, c4⟩ rfl ((q4.below hB4).alloc _) w4.heap.size rfl (range_new _ _ _) (by omega) (by decide) (by have := hB4.size; simp; omega) ?_
            intro B6 d6 w6 hgl6 ht6 hn6
            obtain ⟨hc6, hf6⟩ := hafter6 w4 _ w6 hB4 ht6
            refine hK _ _ ?_
            clear hK K
            try simp only [List.getElem_toArray, List.getElem_cons_succ, List.getElem_cons_zero, Act.put, List.setIfInBounds_toArray, List.set_cons_zero, List.set_cons_succ]
            refine wpAnyIn_ready (rs := [7]) (by kernel_rfl) (by simp) ?_
            refine AllReadyIn.cons rfl (fun K hK => ?_) AllReadyIn.nil
            go_simp
            refine hK _ _ ?_
            clear hK K
            try simp only [List.getElem_toArray, List.getElem_cons_succ, List.getElem_cons_zero, Act.put, List.setIfInBounds_toArray, List.set_cons_zero, List.set_cons_succ]
            refine wpAnyIn_done (by kernel_rfl) ?_ _
            exact leaf_ok (x := ⟨_, xn, xl, xrd, xpos, xle⟩) q1 q2 q4 q5 q6 q7 hB hgl4 hB4 _ hgl6 ht6 hn6
          · skip
            refine step_pushL_in strE rfl _ _ 22 rfl W.heap.size 9 i0 _ 16 Try.underlying22 hi hz0 HI.out.1 HI.out.2 rfl (.slice (some ⟨W.heap.size, 0, none⟩) 1 1) [hd] xl rfl hN0 ⟨bx, ox, none⟩ xn xn rfl hxl hsrc (by simp; omega) (by decide) (by simp) ?_
            intro A4 c4 w4 hgl4 hg4
            obtain ⟨hB4, hc4, hb4⟩ := hafter4 _ hg4
            have hal4 := fun o => (World.cell?_alloc_lt w4 o ⟨w.heap.size + 1 + 1, 0, none⟩ (World.block_lt_of_cell? w4 _ hc4)).trans hc4
            refine hK _ _ ?_
            clear hK K
            try simp only [List.getElem_toArray, List.getElem_cons_succ, List.getElem_cons_zero, Act.put, List.setIfInBounds_toArray, List.set_cons_zero, List.set_cons_succ]
            refine wpAnyIn_ready (rs := [0, 5]) (by kernel_rfl) (by simp) ?_
            refine AllReadyIn.cons rfl (fun K hK => ?_) (AllReadyIn.cons rfl (fun K hK => ?_) AllReadyIn.nil)
            · skip
              go_simp
              refine hK _ _ ?_
              clear hK K
              try simp only [List.getElem_toArray, List.getElem_cons_succ, List.getElem_cons_zero, Act.put, List.setIfInBounds_toArray, List.set_cons_zero, List.set_cons_succ]
              refine wpAnyIn_ready (rs := [5]) (by kernel_rfl) (by simp) ?_
              refine AllReadyIn.cons rfl (fun K hK => ?_) AllReadyIn.nil
              go_simp
              refine hK _ _ ?_
              clear hK K
              try simp only [List.getElem_toArray, List.getElem_cons_succ, List.getElem_cons_zero, Act.put, List.setIfInBounds_toArray, List.set_cons_zero, List.set_cons_succ]
              refine wpAnyIn_ready (rs := [6]) (by kernel_rfl) (by simp) ?_
              refine AllReadyIn.cons rfl (fun K hK => ?_) AllReadyIn.nil
              refine step_pushO_in slE rfl _ _ 24 rfl (w.heap.size + 1) 22 j0 _ 24 Try.underlying24 gi gz0 GI.out.1 GI.out.2 rfl B pre.length d ps ⟨A4, _, c4⟩ rfl ((q4.below hB4).alloc _) w4.heap.size rfl (range_new _ _ _) (by omega) (by decide) (by have := hB4.size; simp; omega) ?_
              intro B6 d6 w6 hgl6 ht6 hn6
              obtain ⟨hc6, hf6⟩ := hafter6 w4 _ w6 hB4 ht6
              refine hK _ _ ?_
              clear hK K
              try simp only [List.getElem_toArray, List.getElem_cons_succ, List.getElem_cons_zero, Act.put, List.setIfInBounds_toArray, List.set_cons_zero, List.set_cons_succ]
              refine wpAnyIn_ready (rs := [7]) (by kernel_rfl) (by simp) ?_
              refine AllReadyIn.cons rfl (fun K hK => ?_) AllReadyIn.nil
              go_simp
              refine hK _ _ ?_
              clear hK K
              try simp only [List.getElem_toArray, List.getElem_cons_succ, List.getElem_cons_zero, Act.put, List.setIfInBounds_toArray, List.set_cons_zero, List.set_cons_succ]
              refine wpAnyIn_done (by kernel_rfl) ?_ _
              exact leaf_ok (x := ⟨_, xn, xl, xrd, xpos, xle⟩) q1 q2 q4 q5 q6 q7 hB hgl4 hB4 _ hgl6 ht6 hn6
            · skip
              go_simp
              refine hK _ _ ?_
              clear hK K
              try simp only [List.getElem_toArray, List.getElem_cons_succ, List.getElem_cons_zero, Act.put, List.setIfInBounds_toArray, List.set_cons_zero, List.set_cons_succ]
              refine wpAnyIn_ready (rs := [0]) (by kernel_rfl) (by simp) ?_
              refine AllReadyIn.cons rfl (fun K hK => ?_) AllReadyIn.nil
              go_simp
              refine hK _ _ ?_
              clear hK K
              try simp only [List.getElem_toArray, List.getElem_cons_succ, List.getElem_cons_zero, Act.put, List.setIfInBounds_toArray, List.set_cons_zero, List.set_cons_succ]
              refine wpAnyIn_ready (rs := [6]) (by kernel_rfl) (by simp) ?_
              refine AllReadyIn.cons rfl (fun K hK => ?_) AllReadyIn.nil
              refine step_pushO_in slE rfl _ _ 24 rfl (w.heap.size + 1) 22 j0 _ 24 Try.underlying24 gi gz0 GI.out.1 GI.out.2 rfl B pre.length d ps ⟨A4, _, c4⟩ rfl ((q4.below hB4).alloc _) w4.heap.size rfl (range_new _ _ _) (by omega) (by decide) (by have := hB4.size; simp; omega) ?_
              intro B6 d6 w6 hgl6 ht6 hn6
              obtain ⟨hc6, hf6⟩ := hafter6 w4 _ w6 hB4 ht6
              refine hK _ _ ?_
              clear hK K
              try simp only [List.getElem_toArray, List.getElem_cons_succ, List.getElem_cons_zero, Act.put, List.setIfInBounds_toArray, List.set_cons_zero, List.set_cons_succ]
              refine wpAnyIn_ready (rs := [7]) (by kernel_rfl) (by simp) ?_
              refine AllReadyIn.cons rfl (fun K hK => ?_) AllReadyIn.nil
              go_simp
              refine hK _ _ ?_
              clear hK K
              try simp only [List.getElem_toArray, List.getElem_cons_succ, List.getElem_cons_zero, Act.put, List.setIfInBounds_toArray, List.set_cons_zero, List.set_cons_succ]
              refine wpAnyIn_done (by kernel_rfl) ?_ _
              exact leaf_ok (x := ⟨_, xn, xl, xrd, xpos, xle⟩) q1 q2 q4 q5 q6 q7 hB hgl4 hB4 _ hgl6 ht6 hn6
    · skip
      go_simp
      refine hK _ _ ?_
      clear hK K
      try simp only [List.getElem_toArray, List.getElem_cons_succ, List.getElem_cons_zero, Act.put, List.setIfInBounds_toArray, List.set_cons_zero, List.set_cons_succ]
      refine wpAnyIn_ready (rs := [0, 1]) (by kernel_rfl) (by simp) ?_
      refine AllReadyIn.cons rfl (fun K hK => ?_) (AllReadyIn.cons rfl (fun K hK => ?_) AllReadyIn.nil)
      · skip
        go_simp
        refine hK _ _ ?_
        clear hK K
        try simp only [List.getElem_toArray, List.getElem_cons_succ, List.getElem_cons_zero, Act.put, List.setIfInBounds_toArray, List.set_cons_zero, List.set_cons_succ]
        refine wpAnyIn_ready (rs := [1]) (by kernel_rfl) (by simp) ?_
        refine AllReadyIn.cons rfl (fun K hK => ?_) AllReadyIn.nil
        go_simp
        refine hK _ _ ?_
        clear hK K
        try simp only [List.getElem_toArray, List.getElem_cons_succ, List.getElem_cons_zero, Act.put, List.setIfInBounds_toArray, List.set_cons_zero, List.set_cons_succ]
        refine wpAnyIn_ready (rs := [2]) (by kernel_rfl) (by simp) ?_
        refine AllReadyIn.cons rfl (fun K hK => ?_) AllReadyIn.nil
        go_simp
        refine hK _ _ ?_
        clear hK K
        try simp only [List.getElem_toArray, List.getElem_cons_succ, List.getElem_cons_zero, Act.put, List.setIfInBounds_toArray, List.set_cons_zero, List.set_cons_succ]
        refine wpAnyIn_ready (rs := [4]) (by kernel_rfl) (by simp) ?_
        refine AllReadyIn.cons rfl (fun K hK => ?_) AllReadyIn.nil
        refine step_pushL_in strE rfl _ _ 22 rfl W.heap.size 9 i0 _ 16 Try.underlying22 hi hz0 HI.out.1 HI.out.2 rfl (.slice (some ⟨W.heap.size, 0, none⟩) 1 1) [hd] xl rfl hN0 ⟨bx, ox, none⟩ xn xn rfl hxl hsrc (by simp; omega) (by decide) (by simp) ?_
        intro A4 c4 w4 hgl4 hg4
        obtain ⟨hB4, hc4, hb4⟩ := hafter4 _ hg4
        have hal4 := fun o => (World.cell?_alloc_lt w4 o ⟨w.heap.size + 1 + 1, 0, none⟩ (World.block_lt_of_cell? w4 _ hc4)).trans hc4
        refine hK _ _ ?_
        clear hK K
        try simp only [List.getElem_toArray, List.getElem_cons_succ, List.getElem_cons_zero, Act.put, List.setIfInBounds_toArray, List.set_cons_zero, List.set_cons_succ]
        refine wpAnyIn_ready (rs := [5]) (by kernel_rfl) (by simp) ?_
        refine AllReadyIn.cons rfl (fun K hK => ?_) AllReadyIn.nil
        go_simp
        refine hK _ _ ?_
        clear hK K
        try simp only [List.getElem_toArray, List.getElem_cons_succ, List.getElem_cons_zero, Act.put, List.setIfInBounds_toArray, List.set_cons_zero, List.set_cons_succ]
        refine wpAnyIn_ready (rs := [6]) (by kernel_rfl) (by simp) ?_
        refine AllReadyIn.cons rfl (fun K hK => ?_) AllReadyIn.nil
        refine step_pushO_in slE rfl _ _ 24 rfl (w.heap.size + 1) 22 j0 _ 24 Try.underlying24 gi gz0 GI.out.1 GI.out.2 rfl B pre.length d ps ⟨A4, _, c4⟩ rfl ((q4.below hB4).alloc _) w4.heap.size rfl (range_new _ _ _) (by omega) (by decide) (by have := hB4.size; simp; omega) ?_
        intro B6 d6 w6 hgl6 ht6 hn6
        obtain ⟨hc6, hf6⟩ := hafter6 w4 _ w6 hB4 ht6
        refine hK _ _ ?_
        clear hK K
        try simp only [List.getElem_toArray, List.getElem_cons_succ, List.getElem_cons_zero, Act.put, List.setIfInBounds_toArray, List.set_cons_zero, List.set_cons_succ]
        refine wpAnyIn_ready (rs := [7]) (by kernel_rfl) (by simp) ?_
        refine AllReadyIn.cons rfl (fun K hK => ?_) AllReadyIn.nil
        go_simp
        refine hK _ _ ?_
        clear hK K
        try simp only [List.getElem_toArray, List.getElem_cons_succ, List.getElem_cons_zero, Act.put, List.setIfInBounds_toArray, List.set_cons_zero, List.set_cons_succ]
        refine wpAnyIn_done (by kernel_rfl) ?_ _
        exact leaf_ok (x := ⟨_, xn, xl, xrd, xpos, xle⟩) q1 q2 q4 q5 q6 q7 hB hgl4 hB4 _ hgl6 ht6 hn6
      · skip
        go_simp
        refine hK _ _ ?_
        clear hK K
        try simp only [List.getElem_toArray, List.getElem_cons_succ, List.getElem_cons_zero, Act.put, List.setIfInBounds_toArray, List.set_cons_zero, List.set_cons_succ]
        refine wpAnyIn_ready (rs := [0, 2]) (by kernel_rfl) (by simp) ?_
        refine AllReadyIn.cons rfl (fun K hK => ?_) (AllReadyIn.cons rfl (fun K hK => ?_) AllReadyIn.nil)
        · skip
          go_simp
          refine hK _ _ ?_
          clear hK K
          try simp only [List.getElem_toArray, List.getElem_cons_succ, List.getElem_cons_zero, Act.put, List.setIfInBounds_toArray, List.set_cons_zero, List.set_cons_succ]
          refine wpAnyIn_ready (rs := [2]) (by kernel_rfl) (by simp) ?_
          refine AllReadyIn.cons rfl (fun K hK => ?_) AllReadyIn.nil
          go_simp
          refine hK _ _ ?_
          clear hK K
          try simp only [List.getElem_toArray, List.getElem_cons_succ, List.getElem_cons_zero, Act.put, List.setIfInBounds_toArray, List.set_cons_zero, List.set_cons_succ]
          refine wpAnyIn_ready (rs := [4]) (by kernel_rfl) (by simp) ?_
          refine AllReadyIn.cons rfl (fun K hK => ?_) AllReadyIn.nil
          refine step_pushL_in strE rfl _ _ 22 rfl W.heap.size 9 i0 _ 16 Try.underlying22 hi hz0 HI.out.1 HI.out.2 rfl (.slice (some ⟨W.heap.size, 0, none⟩) 1 1) [hd] xl rfl hN0 ⟨bx, ox, none⟩ xn xn rfl hxl hsrc (by simp; omega) (by decide) (by simp) ?_
          intro A4 c4 w4 hgl4 hg4
          obtain ⟨hB4, hc4, hb4⟩ := hafter4 _ hg4
          have hal4 := fun o => (World.cell?_alloc_lt w4 o ⟨w.heap.size + 1 + 1, 0, none⟩ (World.block_lt_of_cell? w4 _ hc4)).trans hc4
          refine hK _ _ ?_
          clear hK K
          try simp only [List.getElem_toArray, List.getElem_cons_succ, List.getElem_cons_zero, Act.put, List.setIfInBounds_toArray, List.set_cons_zero, List.set_cons_succ]
          refine wpAnyIn_ready (rs := [5]) (by kernel_rfl) (by simp) ?_
          refine AllReadyIn.cons rfl (fun K hK => ?_) AllReadyIn.nil
          go_simp
          refine hK _ _ ?_
          clear hK K
          try simp only [List.getElem_toArray, List.getElem_cons_succ, List.getElem_cons_zero, Act.put, List.setIfInBounds_toArray, List.set_cons_zero, List.set_cons_succ]
          refine wpAnyIn_ready (rs := [6]) (by kernel_rfl) (by simp) ?_
          refine AllReadyIn.cons rfl (fun K hK => ?_) AllReadyIn.nil
          refine step_pushO_in slE rfl _ _ 24 rfl (w.heap.size + 1) 22 j0 _ 24 Try.underlying24 gi gz0 GI.out.1 GI.out.2 rfl B pre.length d ps ⟨A4, _, c4⟩ rfl ((q4.below hB4).alloc _) w4.heap.size rfl (range_new _ _ _) (by omega) (by decide) (by have := hB4.size; simp; omega) ?_
          intro B6 d6 w6 hgl6 ht6 hn6
          obtain ⟨hc6, hf6⟩ := hafter6 w4 _ w6 hB4 ht6
          refine hK _ _ ?_
          clear hK K
          try simp only [List.getElem_toArray, List.getElem_cons_succ, List.getElem_cons_zero, Act.put, List.setIfInBounds_toArray, List.set_cons_zero, List.set_cons_succ]
          refine wpAnyIn_ready (rs := [7]) (by kernel_rfl) (by simp) ?_
          refine AllReadyIn.cons rfl (fun K hK => ?_) AllReadyIn.nil
          go_simp
          refine hK _ _ ?_
          clear hK K
          try simp only [List.getElem_toArray, List.getElem_cons_succ, List.getElem_cons_zero, Act.put, List.setIfInBounds_toArray, List.set_cons_zero, List.set_cons_succ]
          refine wpAnyIn_done (by kernel_rfl) ?_ _
          exact leaf_ok (x := ⟨_, xn, xl, xrd, xpos, xle⟩) q1 q2 q4 q5 q6 q7 hB hgl4 hB4 _ hgl6 ht6 hn6
        · skip
          go_simp
          refine hK _ _ ?_
          clear hK K
          try simp only [List.getElem_toArray, List.getElem_cons_succ, List.getElem_cons_zero, Act.put, List.setIfInBounds_toArray, List.set_cons_zero, List.set_cons_succ]
          refine wpAnyIn_ready (rs := [0, 4]) (by kernel_rfl) (by simp) ?_
          refine AllReadyIn.cons rfl (fun K hK => ?_) (AllReadyIn.cons rfl (fun K hK => ?_) AllReadyIn.nil)
          · skip
            go_simp
            refine hK _ _ ?_
            clear hK K
            try simp only [List.getElem_toArray, List.getElem_cons_succ, List.getElem_cons_zero, Act.put, List.setIfInBounds_toArray, List.set_cons_zero, List.set_cons_succ]
            refine wpAnyIn_ready (rs := [4]) (by kernel_rfl) (by simp) ?_
            refine AllReadyIn.cons rfl (fun K hK => ?_) AllReadyIn.nil
            refine step_pushL_in strE rfl _ _ 22 rfl W.heap.size 9 i0 _ 16 Try.underlying22 hi hz0 HI.out.1 HI.out.2 rfl (.slice (some ⟨W.heap.size, 0, none⟩) 1 1) [hd] xl rfl hN0 ⟨bx, ox, none⟩ xn xn rfl hxl hsrc (by simp; omega) (by decide) (by simp) ?_
            intro A4 c4 w4 hgl4 hg4
            obtain ⟨hB4, hc4, hb4⟩ := hafter4 _ hg4
            have hal4 := fun o => (World.cell?_alloc_lt w4 o ⟨w.heap.size + 1 + 1, 0, none⟩ (World.block_lt_of_cell? w4 _ hc4)).trans hc4
            refine hK _ _ ?_
            clear hK K
            try simp only [List.getElem_toArray, List.getElem_cons_succ, List.getElem_cons_zero, Act.put, List.setIfInBounds_toArray, List.set_cons_zero, List.set_cons_succ]
            refine wpAnyIn_ready (rs := [5]) (by kernel_rfl) (by simp) ?_
            refine AllReadyIn.cons rfl (fun K hK => ?_) AllReadyIn.nil
            go_simp
            refine hK _ _ ?_
            clear hK K
            try simp only [List.getElem_toArray, List.getElem_cons_succ, List.getElem_cons_zero, Act.put, List.setIfInBounds_toArray, List.set_cons_zero, List.set_cons_succ]
            refine wpAnyIn_ready (rs := [6]) (by kernel_rfl) (by simp) ?_
            refine AllReadyIn.cons rfl (fun K hK => ?_) AllReadyIn.nil
            refine step_pushO_in slE rfl _ _ 24 rfl (w.heap.size + 1) 22 j0 _ 24 Try.underlying24 gi gz0 GI.out.1 GI.out.2 rfl B pre.length d ps ⟨A4, _, c4⟩ rfl ((q4.below hB4).alloc _) w4.heap.size rfl (range_new _ _ _) (by omega) (by decide) (by have := hB4.size; simp; omega) ?_
            intro B6 d6 w6 hgl6 ht6 hn6
            obtain ⟨hc6, hf6⟩ := hafter6 w4 _ w6 hB4 ht6
            refine hK _ _ ?_
            clear hK K
            try simp only [List.getElem_toArray, List.getElem_cons_succ, List.getElem_cons_zero, Act.put, List.setIfInBounds_toArray, List.set_cons_zero, List.set_cons_succ]
            refine wpAnyIn_ready (rs := [7]) (by kernel_rfl) (by simp) ?_
            refine AllReadyIn.cons rfl (fun K hK => ?_) AllReadyIn.nil
            go_simp
            refine hK _ _ ?_
            clear hK K
            try simp only [List.getElem_toArray, List.getElem_cons_succ, List.getElem_cons_zero, Act.put, List.setIfInBounds_toArray, List.set_cons_zero, List.set_cons_succ]
            refine wpAnyIn_done (by kernel_rfl) ?_ _
            exact leaf_ok (x := ⟨_, xn, xl, xrd, xpos, xle⟩) q1 q2 q4 q5 q6 q7 hB hgl4 hB4 _ hgl6 ht6 hn6
          · skip
            refine step_pushL_in strE rfl _ _ 22 rfl W.heap.size 9 i0 _ 16 Try.underlying22 hi hz0 HI.out.1 HI.out.2 rfl (.slice (some ⟨W.heap.size, 0, none⟩) 1 1) [hd] xl rfl hN0 ⟨bx, ox, none⟩ xn xn rfl hxl hsrc (by simp; omega) (by decide) (by simp) ?_
            intro A4 c4 w4 hgl4 hg4
            obtain ⟨hB4, hc4, hb4⟩ := hafter4 _ hg4
            have hal4 := fun o => (World.cell?_alloc_lt w4 o ⟨w.heap.size + 1 + 1, 0, none⟩ (World.block_lt_of_cell? w4 _ hc4)).trans hc4
            refine hK _ _ ?_
            clear hK K
            try simp only [List.getElem_toArray, List.getElem_cons_succ, List.getElem_cons_zero, Act.put, List.setIfInBounds_toArray, List.set_cons_zero, List.set_cons_succ]
            refine wpAnyIn_ready (rs := [0, 5]) (by kernel_rfl) (by simp) ?_
            refine AllReadyIn.cons rfl (fun K hK => ?_) (AllReadyIn.cons rfl (fun K hK => ?_) AllReadyIn.nil)
            · skip
              go_simp
              refine hK _ _ ?_
              clear hK K
              try simp only [List.getElem_toArray, List.getElem_cons_succ, List.getElem_cons_zero, Act.put, List.setIfInBounds_toArray, List.set_cons_zero, List.set_cons_succ]
              refine wpAnyIn_ready (rs := [5]) (by kernel_rfl) (by simp) ?_
              refine AllReadyIn.cons rfl (fun K hK => ?_) AllReadyIn.nil
              go_simp
              refine hK _ _ ?_
              clear hK K
              try simp only [List.getElem_toArray, List.getElem_cons_succ, List.getElem_cons_zero, Act.put, List.setIfInBounds_toArray, List.set_cons_zero, List.set_cons_succ]
              refine wpAnyIn_ready (rs := [6]) (by kernel_rfl) (by simp) ?_
              refine AllReadyIn.cons rfl (fun K hK => ?_) AllReadyIn.nil
              refine step_pushO_in slE rfl _ _ 24 rfl (w.heap.size + 1) 22 j0 _ 24 Try.underlying24 gi gz0 GI.out.1 GI.out.2 rfl B pre.length d ps ⟨A4, _, c4⟩ rfl ((q4.below hB4).alloc _) w4.heap.size rfl (range_new _ _ _) (by omega) (by decide) (by have := hB4.size; simp; omega) ?_
              intro B6 d6 w6 hgl6 ht6 hn6
              obtain ⟨hc6, hf6⟩ := hafter6 w4 _ w6 hB4 ht6
              refine hK _ _ ?_
              clear hK K
              try simp only [List.getElem_toArray, List.getElem_cons_succ, List.getElem_cons_zero, Act.put, List.setIfInBounds_toArray, List.set_cons_zero, List.set_cons_succ]
              refine wpAnyIn_ready (rs := [7]) (by kernel_rfl) (by simp) ?_
              refine AllReadyIn.cons rfl (fun K hK => ?_) AllReadyIn.nil
              go_simp
              refine hK _ _ ?_
              clear hK K
              try simp only [List.getElem_toArray, List.getElem_cons_succ, List.getElem_cons_zero, Act.put, List.setIfInBounds_toArray, List.set_cons_zero, List.set_cons_succ]
              refine wpAnyIn_done (by kernel_rfl) ?_ _
              exact leaf_ok (x := ⟨_, xn, xl, xrd, xpos, xle⟩) q1 q2 q4 q5 q6 q7 hB hgl4 hB4 _ hgl6 ht6 hn6
            · skip
              go_simp
              refine hK _ _ ?_
              clear hK K
              try simp only [List.getElem_toArray, List.getElem_cons_succ, List.getElem_cons_zero, Act.put, List.setIfInBounds_toArray, List.set_cons_zero, List.set_cons_succ]
              refine wpAnyIn_ready (rs := [0]) (by kernel_rfl) (by simp) ?_
              refine AllReadyIn.cons rfl (fun K hK => ?_) AllReadyIn.nil
              go_simp
              refine hK _ _ ?_
              clear hK K
              try simp only [List.getElem_toArray, List.getElem_cons_succ, List.getElem_cons_zero, Act.put, List.setIfInBounds_toArray, List.set_cons_zero, List.set_cons_succ]
              refine wpAnyIn_ready (rs := [6]) (by kernel_rfl) (by simp) ?_
              refine AllReadyIn.cons rfl (fun K hK => ?_) AllReadyIn.nil
              refine step_pushO_in slE rfl _ _ 24 rfl (w.heap.size + 1) 22 j0 _ 24 Try.underlying24 gi gz0 GI.out.1 GI.out.2 rfl B pre.length d ps ⟨A4, _, c4⟩ rfl ((q4.below hB4).alloc _) w4.heap.size rfl (range_new _ _ _) (by omega) (by decide) (by have := hB4.size; simp; omega) ?_
              intro B6 d6 w6 hgl6 ht6 hn6
              obtain ⟨hc6, hf6⟩ := hafter6 w4 _ w6 hB4 ht6
              refine hK _ _ ?_
              clear hK K
              try simp only [List.getElem_toArray, List.getElem_cons_succ, List.getElem_cons_zero, Act.put, List.setIfInBounds_toArray, List.set_cons_zero, List.set_cons_succ]
              refine wpAnyIn_ready (rs := [7]) (by kernel_rfl) (by simp) ?_
              refine AllReadyIn.cons rfl (fun K hK => ?_) AllReadyIn.nil
              go_simp
              refine hK _ _ ?_
              clear hK K
              try simp only [List.getElem_toArray, List.getElem_cons_succ, List.getElem_cons_zero, Act.put, List.setIfInBounds_toArray, List.set_cons_zero, List.set_cons_succ]
              refine wpAnyIn_done (by kernel_rfl) ?_ _
              exact leaf_ok (x := ⟨_, xn, xl, xrd, xpos, xle⟩) q1 q2 q4 q5 q6 q7 hB hgl4 hB4 _ hgl6 ht6 hn6
    -- YDOB
  case done =>
    rintro D ys W hD hys ⟨⟨B, n, d, ps, q1, q2, q3, q4, q5, q6, q7⟩, hB⟩ hK
    have hc1 := q1.cell
    gi_wp2
    refine ⟨by simp, .inl ⟨_, _, rfl, run_takeDeferred hK, ?_⟩⟩
    have hg := grownBy_putObj' W D (.deferred none)
    have hrw : ∀ r, some D = some r → 0 ≤ r ∧ ∃ o : Obj, W.heap[r]? = some o ∧ o.isCells = false := fun r e => by cases e; exact ⟨Nat.zero_le _, _, hK, rfl⟩
    have hpl : (ys.map fun x => hd :: x.l) = pgV ss ((m : Int) + 1) hd := by
      rw [E.out.1]
      unfold pagesB
      rw [HL.out]
      have h9 := congrArg (List.map (fun y => hd :: y)) hys
      rw [List.map_map, List.map_map] at h9
      exact h9
    have hlen : ps.length = n := (q4.own).1
    subst q3
    have hyl : ys.length = pageCount m N := by have h8 := congrArg List.length hys; simpa using h8
    have hyb : ys.length ≤ 1048576 := by
      rw [hyl]; unfold pageCount
      exact Nat.le_trans (Nat.div_le_self _ _) (by omega)
    rw [hpl] at q5
    rw [E.out.2]
    exact ⟨_, results_tmp2 rfl _ _ _, B, ys.length, d, ps, by rw [← q5.len, hlen], hyb, GL.lower (q4.keptR hg hrw) (by omega), ⟨q5.len, fun k p l hp hl => GL.lower ((q5.row k p l hp hl).keptR hg hrw) (by omega), q5.out, q5.two⟩, rfl, hB.trans (belowK_b (w := w) (Nat.le_refl _) W D _ _ (by rw [hsz] at hD; omega) hK rfl rfl)⟩
  case stop =>
    rintro D c pre W _ _ h _
    exact h.elim
end Go.Proofs.Ytlnhjjcficoldaa

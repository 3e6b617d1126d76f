/- Drawn ones: Rental. Printed by a program of mine. -/
import Derived.Test.YthfedegmplmgfaaGreatDoorRows
import Derived.Test.YthfedegmplmgfaaGreatDoorSrc
import Derived.Test.YthfedegmplmgfaaGreatDoorRRental
import Derived.Test.YthfedegmplmgfaaGreatDoorValRental
import Derived.Test.YthfedegmplmgfaaGreatDoorTwo
import Derived.Test.YthfedegmplmgfaaGreatDoorSrcMore
import Derived.Test.YthfedegmplmgfaaGreatDoorSrcText
namespace Go.Proofs.YthfedegmplmgfaaGreatDoor
set_option linter.unusedVariables false
set_option linter.unusedSimpArgs false
set_option linter.unusedSectionVars false
open Go.RowKit

def rentalitems : List ByteArray := [⟨#[118, 105, 111, 108, 97]⟩, ⟨#[118, 105, 111, 108, 105, 110]⟩, ⟨#[118, 105, 111, 108, 105, 110, 50]⟩]
structure RentalDrawn (id : ByteArray) (q : DRental) : Prop where
  name : q.fId = id
  bItem : q.fItem ∈ rentalitems
  bDay : 0 ≤ q.fDay ∧ q.fDay ≤ 890
  bMonths : 1 ≤ q.fMonths ∧ q.fMonths ≤ 12
  bFee : 0 ≤ q.fFee ∧ q.fFee ≤ 4900
set_option maxRecDepth 100000 in
set_option maxHeartbeats 2000000 in
theorem s_l21DrawOne (g m : Nat) (id : ByteArray) (w : World) (h : SrcW g m w) (hm : m ≤ 1000000) :
    Calls Tryz.prog 43 #[.pointer (some ⟨g, 0, none⟩), .string id] w fun e w' => ∃ q : DRental, RentalDrawn id q ∧ e = .returned (.agg #[.string q.fId, .string q.fItem, .int .i64 q.fDay, .int .i64 q.fMonths, .int .i64 q.fFee]) ∧ SrcW g (m + 8) w' ∧ Touch (fun k => k = g) w w' := by
  have hg := h.lt
  have hR := range_new w #[.string ⟨#[]⟩, .string ⟨#[]⟩, .int .i64 0, .int .i64 0, .int .i64 0] 37
  have hfr := fun j => new_free w #[.string ⟨#[]⟩, .string ⟨#[]⟩, .int .i64 0, .int .i64 0, .int .i64 0] 37 j
  obtain ⟨W0, hW0⟩ : ∃ W0, w.alloc (.cells #[.string ⟨#[]⟩, .string ⟨#[]⟩, .int .i64 0, .int .i64 0, .int .i64 0] 37) = W0 := ⟨_, rfl⟩
  have T0 : Touch (fun k => k = g) w W0 := hW0 ▸ Touch.alloc _ _
  have h0 : SrcW g m W0 := h.below (hW0 ▸ (Below.refl _ _).alloc (Nat.le_refl _) _)
  have z0 : W0.heap.size = w.heap.size + 1 := by rw [← hW0]; simp
  rw [hW0] at hR hfr
  have Z0 := Lib.hid z0
  clear z0
  go_enter Tryz.func43, Tryz.ntmps43
  go_wp2_with fail
  try rw [hW0]
  clear hW0
  have hN1 : Rd strE (W0.alloc (.cells #[.string ⟨#[118, 105, 111, 108, 97]⟩, .string ⟨#[118, 105, 111, 108, 105, 110]⟩, .string ⟨#[118, 105, 111, 108, 105, 110, 50]⟩] 9)) (some ⟨W0.heap.size, 0, none⟩) 3 rentalitems := Rd.lit1 strE rfl rfl rfl
  have hT1 : SrcW g (m) (W0.alloc (.cells #[.string ⟨#[118, 105, 111, 108, 97]⟩, .string ⟨#[118, 105, 111, 108, 105, 110]⟩, .string ⟨#[118, 105, 111, 108, 105, 110, 50]⟩] 9)) := h0.below ((Below.refl _ _).alloc (Nat.le_refl _) _)
  have tN1 : Touch (fun k => k = g) W0 (W0.alloc (.cells #[.string ⟨#[118, 105, 111, 108, 97]⟩, .string ⟨#[118, 105, 111, 108, 105, 110]⟩, .string ⟨#[118, 105, 111, 108, 105, 110, 50]⟩] 9)) := Touch.alloc _ _
  have hgw1 : g < W0.heap.size := h0.lt
  obtain ⟨N1, hN1e⟩ : ∃ W, W0.alloc (.cells #[.string ⟨#[118, 105, 111, 108, 97]⟩, .string ⟨#[118, 105, 111, 108, 105, 110]⟩, .string ⟨#[118, 105, 111, 108, 105, 110, 50]⟩] 9) = W := ⟨_, rfl⟩
  rw [hN1e] at hN1 hT1 tN1
  try rw [hN1e]
  clear hN1e
  refine (s_text g (m) _ 3 3 rentalitems N1 hT1 (by omega) hN1 (by omega) (by omega) (fun b o p e => by cases e; omega)).mono ?_
  rintro e w1 ⟨r1, l1, rfl, h1, u1⟩
  have t1 := tN1.trans u1
  clear hN1 hT1 tN1 u1 hgw1
  go_wp2_with fail
  refine (s_pick g (m + 2) 90 w1 h1 (by omega) (by omega) (by omega)).mono ?_
  rintro e w2 ⟨r2, l2, rfl, h2, t2⟩
  go_wp2_with fail
  have z0 := Z0.out
  have T2 := T0.trans (t1.trans t2)
  have hS := T2.size
  have z2 : w.heap.size < w2.heap.size := by have := (t1.trans t2).size; omega
  have hR2 : w2.rangeAt w.heap.size 0 _ := range_touch hR (t1.trans t2) (by omega)
  have hf2 : ∀ j, w2.frozen? ⟨w.heap.size, j, none⟩ = false := fun j => free_touch (hfr j) (by simp; omega) (by simp; omega) (t1.trans t2)
  clear hR hfr T0 t1 t2 h0 h1
  have hX := range_new w2 #[.string id, .string r1, .int .i64 (10 * r2), .int .i64 0, .int .i64 0] 37
  have hxf := fun j => new_free w2 #[.string id, .string r1, .int .i64 (10 * r2), .int .i64 0, .int .i64 0] 37 j
  obtain ⟨W2, hW2⟩ : ∃ W, w2.alloc (.cells #[.string id, .string r1, .int .i64 (10 * r2), .int .i64 0, .int .i64 0] 37) = W := ⟨_, rfl⟩
  have tA : Touch (fun k => k = g) w2 W2 := hW2 ▸ Touch.alloc _ _
  have hB : SrcW g (m + 2 + 2) W2 := h2.below (hW2 ▸ (Below.refl _ _).alloc (Nat.le_refl _) _)
  have zA : W2.heap.size = w2.heap.size + 1 := by rw [← hW2]; simp
  rw [hW2] at hX hxf
  rw [hW2]
  clear hW2
  have T3 := T2.trans tA
  have hR3 : W2.rangeAt w.heap.size 0 _ := range_touch hR2 tA (by omega)
  have hf3 : ∀ j, W2.frozen? ⟨w.heap.size, j, none⟩ = false := fun j => free_touch (hf2 j) (by simp; omega) (by simp; omega) tA
  have y0 := hX 0 _ rfl
  have y1 := hX 1 _ rfl
  have y2 := hX 2 _ rfl
  have y3 := hX 3 _ rfl
  have y4 := hX 4 _ rfl
  simp only [Nat.zero_add] at y0 y1 y2 y3 y4
  obtain ⟨bx, hbx⟩ : ∃ b, w2.heap.size = b := ⟨_, rfl⟩
  obtain ⟨br, hbr⟩ : ∃ b, w.heap.size = b := ⟨_, rfl⟩
  have zX : bx < W2.heap.size := by omega
  rw [hbx] at y0 y1 y2 y3 y4 z2 hxf ⊢
  rw [hbr] at hR3 hf3 z2 hg ⊢
  clear hX hR2 hf2 T2 tA h2 zA
  refine (s_pick g (m + 2 + 2) 12 W2 hB (by omega) (by omega) (by omega)).mono ?_
  rintro e v3 ⟨r3, l3, rfl, h3, t3⟩
  replace y0 := touch_cell t3 (by simp; omega) y0
  replace y1 := touch_cell t3 (by simp; omega) y1
  replace y2 := touch_cell t3 (by simp; omega) y2
  replace y3 := touch_cell t3 (by simp; omega) y3
  replace y4 := touch_cell t3 (by simp; omega) y4
  replace hxf : ∀ j, v3.frozen? ⟨bx, j, none⟩ = false := fun j => free_touch (hxf j) (by simp; omega) (by simp; omega) t3
  replace hR3 := range_touch hR3 t3 (by omega)
  replace hf3 : ∀ j, v3.frozen? ⟨br, j, none⟩ = false := fun j => free_touch (hf3 j) (by simp; omega) (by simp; omega) t3
  replace T3 := T3.trans t3
  replace zX : bx < v3.heap.size := Nat.lt_of_lt_of_le zX t3.size
  clear t3 hB
  have xf := hxf 3
  go_wp2_with fail
  obtain ⟨V3, hW3⟩ : ∃ W, v3.setCell ⟨bx, 3, none⟩ (.int .i64 (1 + r3)) = W := ⟨_, rfl⟩
  replace T3 : Touch (fun k => k = g) w V3 := hW3 ▸ T3.setNew (p := ⟨bx, 3, none⟩) (by show w.heap.size ≤ bx; omega) _
  have h3' : SrcW g (m + 2 + 2 + 2) V3 := h3.touch (F := fun k => k = bx) (hW3 ▸ Touch.setCell (F := fun k => k = bx) (p := ⟨bx, 3, none⟩) rfl _) fun k hk e => by omega
  rw [hW3]
  have y0' : V3.cell? ⟨bx, 0, none⟩ = some (.string id) := hW3 ▸ (World.cell?_setCell_other _ _ _ _ (by simp)).trans y0
  have y1' : V3.cell? ⟨bx, 1, none⟩ = some (.string r1) := hW3 ▸ (World.cell?_setCell_other _ _ _ _ (by simp)).trans y1
  have y2' : V3.cell? ⟨bx, 2, none⟩ = some (.int .i64 (10 * r2)) := hW3 ▸ (World.cell?_setCell_other _ _ _ _ (by simp)).trans y2
  have y3' : V3.cell? ⟨bx, 3, none⟩ = some (.int .i64 (1 + r3)) := hW3 ▸ World.cell?_setCell_same _ _ _ y3
  have y4' : V3.cell? ⟨bx, 4, none⟩ = some (.int .i64 0) := hW3 ▸ (World.cell?_setCell_other _ _ _ _ (by simp)).trans y4
  have tB : Touch (fun k => k = bx) v3 V3 := hW3 ▸ Touch.setCell (F := fun k => k = bx) (p := ⟨bx, 3, none⟩) rfl _
  replace hR3 := range_touch hR3 tB (by omega)
  replace hf3 : ∀ j, V3.frozen? ⟨br, j, none⟩ = false := fun j => free_touch (hf3 j) (by simp; omega) (by simp; omega) tB
  replace hxf : ∀ j, V3.frozen? ⟨bx, j, none⟩ = false := fun j => by rw [← hW3, World.frozen?_setCell]; exact hxf j
  replace zX : bx < V3.heap.size := Nat.lt_of_lt_of_le zX tB.size
  clear hW3 tB xf y0 y1 y2 y3 y4 h3
  have y0 := y0'
  have y1 := y1'
  have y2 := y2'
  have y3 := y3'
  have y4 := y4'
  clear y0' y1' y2' y3' y4'
  refine (s_pick g (m + 2 + 2 + 2) 50 V3 h3' (by omega) (by omega) (by omega)).mono ?_
  rintro e v4 ⟨r4, l4, rfl, h4, t4⟩
  replace y0 := touch_cell t4 (by simp; omega) y0
  replace y1 := touch_cell t4 (by simp; omega) y1
  replace y2 := touch_cell t4 (by simp; omega) y2
  replace y3 := touch_cell t4 (by simp; omega) y3
  replace y4 := touch_cell t4 (by simp; omega) y4
  replace hxf : ∀ j, v4.frozen? ⟨bx, j, none⟩ = false := fun j => free_touch (hxf j) (by simp; omega) (by simp; omega) t4
  replace hR3 := range_touch hR3 t4 (by omega)
  replace hf3 : ∀ j, v4.frozen? ⟨br, j, none⟩ = false := fun j => free_touch (hf3 j) (by simp; omega) (by simp; omega) t4
  replace T3 := T3.trans t4
  replace zX : bx < v4.heap.size := Nat.lt_of_lt_of_le zX t4.size
  clear t4 h3'
  have xf := hxf 4
  have q0 : (v4.setCell ⟨bx, 4, none⟩ (.int .i64 (100 * r4))).cell? ⟨bx, 0, none⟩ = some (.string id) := (World.cell?_setCell_other _ _ _ _ (by simp)).trans y0
  have q1 : (v4.setCell ⟨bx, 4, none⟩ (.int .i64 (100 * r4))).cell? ⟨bx, 1, none⟩ = some (.string r1) := (World.cell?_setCell_other _ _ _ _ (by simp)).trans y1
  have q2 : (v4.setCell ⟨bx, 4, none⟩ (.int .i64 (100 * r4))).cell? ⟨bx, 2, none⟩ = some (.int .i64 (10 * r2)) := (World.cell?_setCell_other _ _ _ _ (by simp)).trans y2
  have q3 : (v4.setCell ⟨bx, 4, none⟩ (.int .i64 (100 * r4))).cell? ⟨bx, 3, none⟩ = some (.int .i64 (1 + r3)) := (World.cell?_setCell_other _ _ _ _ (by simp)).trans y3
  have q4 : (v4.setCell ⟨bx, 4, none⟩ (.int .i64 (100 * r4))).cell? ⟨bx, 4, none⟩ = some (.int .i64 (100 * r4)) := World.cell?_setCell_same _ _ _ y4
  have hR5 : (v4.setCell ⟨bx, 4, none⟩ (.int .i64 (100 * r4))).rangeAt br 0 _ := range_touch hR3 (Touch.setCell (F := fun k => k = bx) (p := ⟨bx, 4, none⟩) rfl _) (by omega)
  have hf5 : ∀ j, (v4.setCell ⟨bx, 4, none⟩ (.int .i64 (100 * r4))).frozen? ⟨br, j, none⟩ = false := fun j => by rw [World.frozen?_setCell]; exact hf3 j
  have b0 := hR5 0 _ rfl
  have b1 := hR5 1 _ rfl
  have b2 := hR5 2 _ rfl
  have b3 := hR5 3 _ rfl
  have b4 := hR5 4 _ rfl
  simp only [Nat.zero_add] at b0 b1 b2 b3 b4
  have f0 := hf5 0
  have f1 := hf5 1
  have f2 := hf5 2
  have f3 := hf5 3
  have f4 := hf5 4
  have HF := Lib.hid (set_cells (w := (v4.setCell ⟨bx, 4, none⟩ (.int .i64 (100 * r4)))) (g := br) [.string id, .string r1, .int .i64 (10 * r2), .int .i64 (1 + r3), .int .i64 (100 * r4)] 0 (fun j hj => by
    match j, hj with
    | 0, _ => exact ⟨_, b0⟩
    | 1, _ => exact ⟨_, b1⟩
    | 2, _ => exact ⟨_, b2⟩
    | 3, _ => exact ⟨_, b3⟩
    | 4, _ => exact ⟨_, b4⟩))
  have hTf := Touch.setsNew (F := fun k => k = g) (w := w) (g := br) (by omega) [.string id, .string r1, .int .i64 (10 * r2), .int .i64 (1 + r3), .int .i64 (100 * r4)] 0 (T3.setNew (p := ⟨bx, 4, none⟩) (by show w.heap.size ≤ bx; omega) (.int .i64 (100 * r4)))
  have hSf : SrcW g (m + 8) ((v4.setCell ⟨bx, 4, none⟩ (.int .i64 (100 * r4))).setCells br 0 [.string id, .string r1, .int .i64 (10 * r2), .int .i64 (1 + r3), .int .i64 (100 * r4)]) := (h4.touch (F := fun k => k = bx ∨ k = br) ((Touch.setCell (F := fun k => k = bx ∨ k = br) (p := ⟨bx, 4, none⟩) (.inl rfl) _).trans (Touch.setCells (.inr rfl) _ 0)) fun k hk e => by omega).more (by omega)
  clear hR3 hf3 hR5 hf5 hxf
  go_wp2
  change bodyPost _ _ _ _ _ ((v4.setCell ⟨bx, 4, none⟩ (.int .i64 (100 * r4))).setCells br 0 [.string id, .string r1, .int .i64 (10 * r2), .int .i64 (1 + r3), .int .i64 (100 * r4)])
  have HF' := HF.out
  generalize ((v4.setCell ⟨bx, 4, none⟩ (.int .i64 (100 * r4))).setCells br 0 [.string id, .string r1, .int .i64 (10 * r2), .int .i64 (1 + r3), .int .i64 (100 * r4)]) = Wf at *
  have qf0 := HF' 0 _ rfl
  have qf1 := HF' 1 _ rfl
  have qf2 := HF' 2 _ rfl
  have qf3 := HF' 3 _ rfl
  have qf4 := HF' 4 _ rfl
  simp only [Nat.zero_add] at qf0 qf1 qf2 qf3 qf4
  exact bodyPost_ret (v := .agg #[.string id, .string r1, .int .i64 (10 * r2), .int .i64 (1 + r3), .int .i64 (100 * r4)]) (by simp [results, Tryz.results43, go_sem, qf0, qf1, qf2, qf3, qf4]) rfl ⟨⟨id, r1, 10 * r2, 1 + r3, 100 * r4⟩, ⟨rfl, l1, ⟨by simp only; omega, by simp only; omega⟩, ⟨by simp only; omega, by simp only; omega⟩, ⟨by simp only; omega, by simp only; omega⟩⟩, rfl, hSf, hTf⟩
theorem Tryz.infoRental : (Tryz.prog.info? 37).map (fun i => (i.zero, i.size, i.bytes)) = some (some (.agg #[.string ⟨#[]⟩, .string ⟨#[]⟩, .int .i64 0, .int .i64 0, .int .i64 0]), 5, 56) := by kernel_rfl
def rentalnames : List ByteArray := [⟨#[114, 49]⟩, ⟨#[114, 50]⟩, ⟨#[114, 51]⟩, ⟨#[114, 52]⟩, ⟨#[114, 53]⟩]
structure RentalList (ns : List ByteArray) (l : List DRental) : Prop where
  sub : (l.map (·.fId)).Sublist ns
  ok : ∀ q ∈ l, RentalDrawn q.fId q
theorem RentalList.nil (ns : List ByteArray) : RentalList ns [] := ⟨List.nil_sublist _, fun q h => by cases h⟩
theorem RentalList.skip {k : Nat} {ns : List ByteArray} {x : ByteArray} {l : List DRental} (h : RentalList (ns.take k) l) (hx : ns[k]? = some x) : RentalList (ns.take (k + 1)) l :=
  ⟨by rw [take_of_get hx]; exact h.sub.trans (List.sublist_append_left _ _), h.ok⟩
theorem RentalList.push {k : Nat} {ns : List ByteArray} {x : ByteArray} {l : List DRental} {q : DRental} (h : RentalList (ns.take k) l) (hx : ns[k]? = some x) (hq : RentalDrawn x q) : RentalList (ns.take (k + 1)) (l ++ [q]) := by
  refine ⟨?_, fun y hy => ?_⟩
  · rw [take_of_get hx, List.map_append, List.map_singleton, hq.name]
    exact List.Sublist.append h.sub (List.Sublist.refl _)
  · rcases List.mem_append.1 hy with h1 | h1
    · exact h.ok y h1
    · rw [List.mem_singleton] at h1
      subst h1
      rw [hq.name]
      exact hq
theorem RentalList.len {ns : List ByteArray} {l : List DRental} (h : RentalList ns l) : l.length ≤ ns.length := by
  have := h.sub.length_le
  rwa [List.length_map] at this
set_option maxRecDepth 100000 in
set_option maxHeartbeats 2000000 in
theorem s_l21Draw (g m : Nat) (w : World) (h : SrcW g m w) (hm : m ≤ 1000) :
    Calls Tryz.prog 23 #[.pointer (some ⟨g, 0, none⟩)] w fun e w' => ∃ (A : Option Addr) (n c : Nat) (l : List DRental), RentalList rentalnames l ∧ l.length = n ∧ e = .returned (.slice A n c) ∧ GL rentalE 37 w.heap.size w' (.slice A n c) l ∧ Touch (fun k => k = g) w w' := by
  obtain ⟨i0, hi, hz0, hz1, hz2⟩ := info_parts Tryz.infoRental
  have hi1 := Lib.hid hz1
  have hi2 := Lib.hid hz2
  clear hz1 hz2
  have hg := h.lt
  have hN : Rd strE (w.alloc (.cells #[.string ⟨#[114, 49]⟩, .string ⟨#[114, 50]⟩, .string ⟨#[114, 51]⟩, .string ⟨#[114, 52]⟩, .string ⟨#[114, 53]⟩] 9)) (some ⟨w.heap.size, 0, none⟩) 5 rentalnames := Rd.lit1 strE rfl rfl rfl
  obtain ⟨W0, hW0⟩ : ∃ W0, w.alloc (.cells #[.string ⟨#[114, 49]⟩, .string ⟨#[114, 50]⟩, .string ⟨#[114, 51]⟩, .string ⟨#[114, 52]⟩, .string ⟨#[114, 53]⟩] 9) = W0 := ⟨_, rfl⟩
  have z0 : W0.heap.size = w.heap.size + 1 := by rw [← hW0]; simp
  have b0 : Below w.heap.size w W0 := hW0 ▸ (Below.refl _ _).alloc (Nat.le_refl _) _
  rw [hW0] at hN
  have hG0 : GL rentalE 37 (w.heap.size + 1) (W0.alloc (.cells #[] 37)) (.slice (some ⟨W0.heap.size, 0, none⟩) 0 0) [] := GL.mk0 (by omega)
  have hN1 := hN.alloc (.cells #[] 37)
  have b1 : Below w.heap.size w (W0.alloc (.cells #[] 37)) := b0.alloc (by omega) _
  obtain ⟨W1, hW1⟩ : ∃ W1, W0.alloc (.cells #[] 37) = W1 := ⟨_, rfl⟩
  have z1 : W1.heap.size = W0.heap.size + 1 := by rw [← hW1]; simp
  rw [hW1] at hG0 hN1 b1
  have h1 : SrcW g m W1 := h.below b1
  have T1 : Touch (fun k => k = g) w W1 := Touch.of_below b1
  clear hN b0 b1
  go_enter Tryz.func23, Tryz.ntmps23
  go_wp2_with fail
  try rw [hW0]
  try rw [hW1]
  rw [z0] at hG0
  have HG0 := Lib.hid hG0
  have HN1 := Lib.hid hN1
  clear hW0 hW1 hG0 hN1
  go_loopw [4, 5] (fun v i wr => ∃ (k mm : Nat) (A : Option Addr) (n c : Nat) (l : List DRental), k ≤ 5 ∧ i = .int .i64 k ∧ v = .slice A n c ∧ n ≤ k ∧ mm ≤ m + 10 * k ∧ GL rentalE 37 (w.heap.size + 1) wr (.slice A n c) l ∧ Hid (RentalList (rentalnames.take k) l) ∧ SrcW g mm wr ∧ Rd strE wr (some ⟨w.heap.size, 0, none⟩) 5 rentalnames ∧ Touch (fun k => k = g) w wr) (fun _ i _ => 5 - (intOf i).toNat)
  case atStart => exact ⟨0, m, _, 0, 0, [], by omega, rfl, rfl, by omega, by omega, HG0.out, Lib.hid (RentalList.nil _), h1, HN1.out, T1⟩
  case round =>
    obtain ⟨k, mm, A, n, c, l, hk, rfl, rfl, hn, hmm, hgl, HL, hS, hrd, hT⟩ := hrel
    clear HG0 HN1 T1 h1
    by_cases hlt : k < 5
    · obtain ⟨b, off, x, hA, hx, hc⟩ := hrd.get hlt
      cases hA
      have hx0 := hc 0 (.string x) rfl
      simp only [strE, Nat.mul_one, Nat.add_zero, Nat.zero_add] at hx0
      have HX := Lib.hid hx
      clear hc hx
      go_wp2_with fail
      refine (s_pick g mm 3 wr hS (by omega) (by omega) (by omega)).mono ?_
      rintro e w1 ⟨r, hr, rfl, hS1, ht1⟩
      have hgl1 := hgl.touch ht1 fun k hk e => by have := (hgl.lt k hk).1; omega
      have hrd1 := hrd.touch ht1 fun _ b o p e => by cases e; omega
      replace hx0 := touch_cell ht1 (by simp; omega) hx0
      replace hT := hT.trans ht1
      clear hgl hrd hS ht1
      by_cases hr0 : 0 < r
      · go_wp2_with fail
        refine (s_l21DrawOne g (mm + 2) x w1 hS1 (by omega)).mono ?_
        rintro e w2 ⟨q, hq, rfl, hS2, ht2⟩
        have hgl2 := hgl1.touch ht2 fun k hk e => by have := (hgl1.lt k hk).1; omega
        have hrd2 := hrd1.touch ht2 fun _ b o p e => by cases e; omega
        replace hT := hT.trans ht2
        have HQ := Lib.hid (HL.out.push HX.out hq)
        have hz2 := hT.size
        clear hgl1 hrd1 hS1 ht2 hx0 HL HX hq
        go_wp2_with (at_builtin; refine wpList_pushO rentalE rfl (.tmp 17) (.tmp 24) 24 rfl (w.heap.size + 1) 37 i0 _ 56 Tryz.underlying24 hi hz0 hi1.out hi2.out rfl A n c l q rfl (hgl2.alloc _) w2.heap.size rfl (range_new _ _ _) (by omega) (by decide) (by simp; omega) ?_; intro A2 c2 w4 hgl4 ht4 _)
        have hS3 : SrcW g (mm + 10) w4 := ((hS2.below ((Below.refl _ _).alloc (Nat.le_refl _) _)).touch ht4 fun k hk e => by have := (hgl2.lt k e).1; omega).more (by omega)
        have hrd4 := (hrd2.alloc (.cells #[.string q.fId, .string q.fItem, .int .i64 q.fDay, .int .i64 q.fMonths, .int .i64 q.fFee] 37)).touch ht4 fun _ b o p e hk => by cases e; have := (hgl2.lt _ hk).1; omega
        have hT4 : Touch (fun k => k = g) w w4 := (hT.allocT _).transNew ht4 fun k hk => by have := (hgl2.lt k hk).1; omega
        clear hgl2 hrd2 hS2 ht4 hT
        go_wp2
        first | (refine ⟨⟨k + 1, mm + 10, A2, n + 1, c2, l ++ [q], by omega, by go_num, rfl, by omega, by omega, hgl4, HQ, hS3, hrd4, hT4⟩, ?_⟩; (simp [intOf]; omega)) | (go_roundw; (case rel => first | exact ⟨k + 1, mm + 10, A2, n + 1, c2, l ++ [q], by omega, by go_num, rfl, by omega, by omega, hgl4, HQ, hS3, hrd4, hT4⟩ | ((try refine ⟨trivial, ?_⟩); (repeat apply Exists.intro); exact ⟨⟨k + 1, mm + 10, A2, n + 1, c2, l ++ [q], by omega, by go_num, rfl, by omega, by omega, hgl4, HQ, hS3, hrd4, hT4⟩, rfl⟩)); (case measure => (simp [intOf]; omega)))
      · obtain rfl : r = 0 := by omega
        have HQ := Lib.hid (HL.out.skip HX.out)
        clear HL HX hx0 hr0
        go_wp2
        first | (refine ⟨⟨k + 1, mm + 2, A, n, c, l, by omega, by go_num, rfl, by omega, by omega, hgl1, HQ, hS1, hrd1, hT⟩, ?_⟩; (simp [intOf]; omega)) | (go_roundw; (case rel => first | exact ⟨k + 1, mm + 2, A, n, c, l, by omega, by go_num, rfl, by omega, by omega, hgl1, HQ, hS1, hrd1, hT⟩ | ((try refine ⟨trivial, ?_⟩); (repeat apply Exists.intro); exact ⟨⟨k + 1, mm + 2, A, n, c, l, by omega, by go_num, rfl, by omega, by omega, hgl1, HQ, hS1, hrd1, hT⟩, rfl⟩)); (case measure => (simp [intOf]; omega)))
    · have HQ : Hid (RentalList rentalnames l) := Lib.hid (by have h := HL.out; rw [List.take_of_length_le (by show 5 ≤ k; omega)] at h; exact h)
      have hl := hgl.len
      clear HL hrd hS
      go_wp2
      go_ret
      exact ⟨A, n, c, l, HQ.out, hl, rfl, hgl.mono (by omega), hT⟩

end Go.Proofs.YthfedegmplmgfaaGreatDoor

/- Drawn coats. Printed by a program of mine. -/
import Derived.Test.YtbdjhecbingcjaaGreatDoorRows
import Derived.Test.YtbdjhecbingcjaaGreatDoorSrc
import Derived.Test.YtbdjhecbingcjaaGreatDoorCoatS
import Derived.Test.YtbdjhecbingcjaaGreatDoorSrcMore
import Derived.Test.YtbdjhecbingcjaaGreatDoorResG
namespace Go.Proofs.YtbdjhecbingcjaaGreatDoor
set_option linter.unusedVariables false
set_option linter.unusedSimpArgs false
set_option linter.unusedSectionVars false
open Go.RowKit
set_option maxRecDepth 100000

def coatnames : List ByteArray := [⟨#[97, 109, 98, 101, 114]⟩, ⟨#[98, 114, 111, 119, 110]⟩, ⟨#[99, 108, 101, 97, 114]⟩, ⟨#[114, 101, 100]⟩]
structure CoatDrawn (id : ByteArray) (x : DCoat) : Prop where
  name : x.fId = id
  days : 0 ≤ x.fDays ∧ x.fDays ≤ 365
  cover : 0 ≤ x.fCover ∧ x.fCover ≤ 1000
  col : Col x.fColour
structure CoatList (ns : List ByteArray) (l : List DCoat) : Prop where
  sub : (l.map (·.fId)).Sublist ns
  ok : ∀ q ∈ l, CoatDrawn q.fId q
theorem CoatList.nil (ns : List ByteArray) : CoatList ns [] := ⟨List.nil_sublist _, fun q h => by cases h⟩
theorem CoatList.skip {k : Nat} {ns : List ByteArray} {x : ByteArray} {l : List DCoat} (h : CoatList (ns.take k) l) (hx : ns[k]? = some x) : CoatList (ns.take (k + 1)) l :=
  ⟨by rw [take_of_get hx]; exact h.sub.trans (List.sublist_append_left _ _), h.ok⟩
theorem CoatList.push {k : Nat} {ns : List ByteArray} {x : ByteArray} {l : List DCoat} {q : DCoat} (h : CoatList (ns.take k) l) (hx : ns[k]? = some x) (hq : CoatDrawn x q) : CoatList (ns.take (k + 1)) (l ++ [q]) := by
  refine ⟨?_, fun y hy => ?_⟩
  · rw [take_of_get hx, List.map_append, List.map_singleton, hq.name]
    exact List.Sublist.append h.sub (List.Sublist.refl _)
  · rcases List.mem_append.1 hy with h1 | h1
    · exact h.ok y h1
    · rw [List.mem_singleton] at h1
      subst h1
      rw [hq.name]
      exact hq
theorem CoatList.len {ns : List ByteArray} {l : List DCoat} (h : CoatList ns l) : l.length ≤ ns.length := by
  have := h.sub.length_le
  rwa [List.length_map] at this
theorem coatnames_ok : ∀ s ∈ coatnames, nameB s = true := by
  simp only [coatnames, nameB, ByteArray.toList_eq]
  decide
theorem coatnames_asc : coatnames.Pairwise fun a b => Op.bytesLess a.toList b.toList = true := by
  simp only [coatnames, ByteArray.toList_eq]
  decide
theorem CoatList.okAll {l : List DCoat} (h : CoatList coatnames l) : OkCs l where
  ok := fun x hx => by
    have h1 := h.ok x hx
    exact ⟨coatnames_ok _ (h.sub.subset (List.mem_map_of_mem hx)), h1.days, h1.cover, h1.col⟩
  asc := fun j p x hp hx => by
    have h1 := List.Pairwise.sublist h.sub coatnames_asc
    exact pair_next h1 (by rw [List.getElem?_map, hp]; rfl) (by rw [List.getElem?_map, hx]; rfl)
  few := Nat.le_trans h.len (by decide)

theorem s_l13DrawColour (g m : Nat) (w : World) (h : SrcW g m w) (hm : m ≤ 1000000) :
    Calls Tryz.prog 23 #[.pointer (some ⟨g, 0, none⟩)] w fun e w' => ∃ (q : Nat) (c : List Int), Col c ∧ e = .returned (.slice (some ⟨q, 0, none⟩) 3 3) ∧ Rd intE w' (some ⟨q, 0, none⟩) 3 c ∧ w.heap.size ≤ q ∧ q < w'.heap.size ∧ SrcW g (m + 6) w' ∧ Touch (fun k => k = g) w w' := by
  go_enter Tryz.func23, Tryz.ntmps23
  go_wp2_with fail
  refine (s_pick g m 256 w h (by omega) (by omega) (by omega)).mono ?_
  rintro e w1 ⟨r1, l1, rfl, h1, t1⟩
  go_wp2_with fail
  refine (s_pick g (m + 2) 256 w1 h1 (by omega) (by omega) (by omega)).mono ?_
  rintro e w2 ⟨r2, l2, rfl, h2, t2⟩
  go_wp2_with fail
  refine (s_pick g (m + 4) 256 w2 h2 (by omega) (by omega) (by omega)).mono ?_
  rintro e w3 ⟨r3, l3, rfl, h3, t3⟩
  have T := (t1.trans t2).trans t3
  have hS : SrcW g (m + 6) (w3.alloc (.cells #[.int .i64 r1, .int .i64 r2, .int .i64 r3] 2)) := h3.below ((Below.refl _ _).alloc (Nat.le_refl _) _)
  have hR : Rd intE (w3.alloc (.cells #[.int .i64 r1, .int .i64 r2, .int .i64 r3] 2)) (some ⟨w3.heap.size, 0, none⟩) 3 [(r1 : Int), (r2 : Int), (r3 : Int)] := Rd.lit1 intE rfl rfl rfl
  have T4 := T.allocT (.cells #[.int .i64 r1, .int .i64 r2, .int .i64 r3] 2)
  have hz := T.size
  have hc : Col [(r1 : Int), (r2 : Int), (r3 : Int)] := ⟨rfl, fun n hn => by simp only [List.mem_cons, List.not_mem_nil, or_false] at hn; rcases hn with rfl | rfl | rfl <;> omega⟩
  clear h1 h2 h3 t1 t2 t3
  go_wp2
  go_ret
  exact ⟨w3.heap.size, _, hc, rfl, hR, hz, by simp, hS, T4⟩

set_option maxHeartbeats 2000000 in
theorem s_l13DrawOne (g m : Nat) (id : ByteArray) (w : World) (h : SrcW g m w) (hm : m ≤ 100000) :
    Calls Tryz.prog 44 #[.pointer (some ⟨g, 0, none⟩), .string id] w fun e w' => ∃ (q : Nat) (x : DCoat), CoatDrawn id x ∧ e = .returned (.agg #[.string x.fId, .int .i64 x.fDays, .int .i64 x.fCover, .slice (some ⟨q, 0, none⟩) 3 3]) ∧ Rd intE w' (some ⟨q, 0, none⟩) 3 x.fColour ∧ w.heap.size ≤ q ∧ q < w'.heap.size ∧ SrcW g (m + 10) w' ∧ Touch (fun k => k = g) w w' := by
  have hg := h.lt
  have hR := range_new w #[.string ⟨#[]⟩, .int .i64 0, .int .i64 0, .slice none 0 0] 36
  have hfr := fun j => new_free w #[.string ⟨#[]⟩, .int .i64 0, .int .i64 0, .slice none 0 0] 36 j
  obtain ⟨W0, hW0⟩ : ∃ W0, w.alloc (.cells #[.string ⟨#[]⟩, .int .i64 0, .int .i64 0, .slice none 0 0] 36) = W0 := ⟨_, rfl⟩
  have T0 : Touch (fun k => k = g) w W0 := hW0 ▸ Touch.alloc _ _
  have h0 : SrcW g m W0 := h.below (hW0 ▸ (Below.refl _ _).alloc (Nat.le_refl _) _)
  have Z0 : Hid (W0.heap.size = w.heap.size + 1) := Lib.hid (by rw [← hW0]; simp)
  rw [hW0] at hR hfr
  obtain ⟨br, hbr⟩ : ∃ b, w.heap.size = b := ⟨_, rfl⟩
  have HBR := Lib.hid hbr
  rw [hbr] at hR hfr
  go_enter Tryz.func44, Tryz.ntmps44
  go_wp2_with fail
  try rw [hW0]
  try rw [hbr]
  clear hW0 hbr
  refine (s_pick g m 20 W0 h0 (by omega) (by omega) (by omega)).mono ?_
  rintro e w1 ⟨r1, l1, rfl, h1, t1⟩
  go_wp2_with fail
  refine (s_pick g (m + 2) 20 w1 h1 (by omega) (by omega) (by omega)).mono ?_
  rintro e w2 ⟨r2, l2, rfl, h2, t2⟩
  have t12 := t1.trans t2
  have T2 := T0.trans t12
  have hgbr : g < br := by have := HBR.out; omega
  have hbr2 : br < w2.heap.size := by have := t12.size; have := Z0.out; have := HBR.out; omega
  have hR2 : w2.rangeAt br 0 _ := range_touch hR t12 (by omega)
  have hf2 : ∀ j, w2.frozen? ⟨br, j, none⟩ = false := fun j => free_touch (hfr j) (by show br < _; have := Z0.out; have := HBR.out; omega) (by simp; omega) t12
  have hX := range_new w2 #[.string id, .int .i64 r1, .int .i64 (50 * r2), .slice none 0 0] 36
  have hxf := fun j => new_free w2 #[.string id, .int .i64 r1, .int .i64 (50 * r2), .slice none 0 0] 36 j
  obtain ⟨W2, hW2⟩ : ∃ W, w2.alloc (.cells #[.string id, .int .i64 r1, .int .i64 (50 * r2), .slice none 0 0] 36) = W := ⟨_, rfl⟩
  have tA : Touch (fun k => k = g) w2 W2 := hW2 ▸ Touch.alloc _ _
  have hB : SrcW g (m + 2 + 2) W2 := h2.below (hW2 ▸ (Below.refl _ _).alloc (Nat.le_refl _) _)
  have zA : Hid (W2.heap.size = w2.heap.size + 1) := Lib.hid (by rw [← hW2]; simp)
  rw [hW2] at hX hxf
  obtain ⟨bx, hbx⟩ : ∃ b, w2.heap.size = b := ⟨_, rfl⟩
  have HBX := Lib.hid hbx
  rw [hbx] at hX hxf
  have hR3 : W2.rangeAt br 0 _ := range_touch hR2 tA (by omega)
  have hf3 : ∀ j, W2.frozen? ⟨br, j, none⟩ = false := fun j => free_touch (hf2 j) (by simp; omega) (by simp; omega) tA
  have T3 := T2.trans tA
  have x0 := hX 0 _ rfl
  have x1 := hX 1 _ rfl
  have x2 := hX 2 _ rfl
  have x3 := hX 3 _ rfl
  simp only [Nat.zero_add] at x0 x1 x2 x3
  have hgx : g < bx := by have := HBX.out; omega
  have hbrx : br < bx := by have := HBX.out; omega
  have hwbx : w.heap.size ≤ bx := by have := T2.size; have := HBX.out; omega
  have tS : Touch (fun k => k = bx) W2 (W2.setCell ⟨bx, 3, none⟩ (.slice none 0 0)) := Touch.setCell (F := fun k => k = bx) (p := ⟨bx, 3, none⟩) rfl _
  have y0 : (W2.setCell ⟨bx, 3, none⟩ (.slice none 0 0)).cell? ⟨bx, 0, none⟩ = _ := (World.cell?_setCell_other _ _ _ _ (by simp)).trans x0
  have y1 : (W2.setCell ⟨bx, 3, none⟩ (.slice none 0 0)).cell? ⟨bx, 1, none⟩ = _ := (World.cell?_setCell_other _ _ _ _ (by simp)).trans x1
  have y2 : (W2.setCell ⟨bx, 3, none⟩ (.slice none 0 0)).cell? ⟨bx, 2, none⟩ = _ := (World.cell?_setCell_other _ _ _ _ (by simp)).trans x2
  have y3 : (W2.setCell ⟨bx, 3, none⟩ (.slice none 0 0)).cell? ⟨bx, 3, none⟩ = _ := World.cell?_setCell_same _ _ _ x3
  have hBV := hB.touch tS (fun k hk h => by omega)
  have hxfV : ∀ j, (W2.setCell ⟨bx, 3, none⟩ (.slice none 0 0)).frozen? ⟨bx, j, none⟩ = false := fun j => by rw [World.frozen?_setCell]; exact hxf j
  have hRV : (W2.setCell ⟨bx, 3, none⟩ (.slice none 0 0)).rangeAt br 0 _ := range_touch hR3 tS (by omega)
  have hfV : ∀ j, (W2.setCell ⟨bx, 3, none⟩ (.slice none 0 0)).frozen? ⟨br, j, none⟩ = false := fun j => by rw [World.frozen?_setCell]; exact hf3 j
  have TV : Touch (fun k => k = g) w (W2.setCell ⟨bx, 3, none⟩ (.slice none 0 0)) := T3.setNew (p := ⟨bx, 3, none⟩) hwbx (.slice none 0 0)
  have hVz : (W2.setCell ⟨bx, 3, none⟩ (.slice none 0 0)).heap.size = W2.heap.size := by simp
  obtain ⟨V, hV⟩ : ∃ V, W2.setCell ⟨bx, 3, none⟩ (.slice none 0 0) = V := ⟨_, rfl⟩
  rw [hV] at y0 y1 y2 y3 hBV hxfV hRV hfV TV hVz
  have zV := Lib.hid hVz
  have xf0 := hxf 3
  clear hVz tS
  go_wp2_with fail
  try rw [hW2]
  try rw [hbx]
  try rw [hV]
  clear hV hW2 hbx hR hfr T0 t1 t2 t12 h0 h1 h2 hR2 hf2 T2 x0 x1 x2 x3 xf0 hX hxf hR3 hf3 T3 hB tA
  refine (s_l13DrawColour g (m + 2 + 2) V hBV (by omega)).mono ?_
  rintro e w3 ⟨q, c, hc, rfl, hq, hq0, hq1, hS, t3⟩
  have hbxV : bx < V.heap.size := by have := zA.out; have := HBX.out; have := zV.out; omega
  have hbxq : bx < q := by omega
  have hbx3 : bx < w3.heap.size := by omega
  have hxf3 : ∀ j, w3.frozen? ⟨bx, j, none⟩ = false := fun j => free_touch (hxfV j) hbxV (by simp; omega) t3
  have hR4 : w3.rangeAt br 0 _ := range_touch hRV t3 (by omega)
  have hf4 : ∀ j, w3.frozen? ⟨br, j, none⟩ = false := fun j => free_touch (hfV j) (by show br < _; omega) (by simp; omega) t3
  have T4 := TV.trans t3
  replace y0 := touch_cell t3 (by simp; omega) y0
  replace y1 := touch_cell t3 (by simp; omega) y1
  replace y2 := touch_cell t3 (by simp; omega) y2
  replace y3 := touch_cell t3 (by simp; omega) y3
  have xf := hxf3 3
  have q0 : (w3.setCell ⟨bx, 3, none⟩ (.slice (some ⟨q, 0, none⟩) 3 3)).cell? ⟨bx, 0, none⟩ = _ := (World.cell?_setCell_other _ _ _ _ (by simp)).trans y0
  have q1 : (w3.setCell ⟨bx, 3, none⟩ (.slice (some ⟨q, 0, none⟩) 3 3)).cell? ⟨bx, 1, none⟩ = _ := (World.cell?_setCell_other _ _ _ _ (by simp)).trans y1
  have q2 : (w3.setCell ⟨bx, 3, none⟩ (.slice (some ⟨q, 0, none⟩) 3 3)).cell? ⟨bx, 2, none⟩ = _ := (World.cell?_setCell_other _ _ _ _ (by simp)).trans y2
  have q3 : (w3.setCell ⟨bx, 3, none⟩ (.slice (some ⟨q, 0, none⟩) 3 3)).cell? ⟨bx, 3, none⟩ = _ := World.cell?_setCell_same _ _ _ y3
  have hT5 : Touch (fun k => k = bx) w3 (w3.setCell ⟨bx, 3, none⟩ (.slice (some ⟨q, 0, none⟩) 3 3)) := Touch.setCell (F := fun k => k = bx) (p := ⟨bx, 3, none⟩) rfl _
  have hR5 : (w3.setCell ⟨bx, 3, none⟩ (.slice (some ⟨q, 0, none⟩) 3 3)).rangeAt br 0 _ := range_touch hR4 hT5 (by omega)
  have hf5 : ∀ j, (w3.setCell ⟨bx, 3, none⟩ (.slice (some ⟨q, 0, none⟩) 3 3)).frozen? ⟨br, j, none⟩ = false := fun j => by rw [World.frozen?_setCell]; exact hf4 j
  have b0 := hR5 0 _ rfl
  have b1 := hR5 1 _ rfl
  have b2 := hR5 2 _ rfl
  have b3 := hR5 3 _ rfl
  simp only [Nat.zero_add] at b0 b1 b2 b3
  have f0 := hf5 0
  have f1 := hf5 1
  have f2 := hf5 2
  have f3 := hf5 3
  have HF := Lib.hid (set_cells (w := (w3.setCell ⟨bx, 3, none⟩ (.slice (some ⟨q, 0, none⟩) 3 3))) (g := br) [.string id, .int .i64 r1, .int .i64 (50 * r2), .slice (some ⟨q, 0, none⟩) 3 3] 0 (fun j hj => by
    match j, hj with
    | 0, _ => exact ⟨_, b0⟩
    | 1, _ => exact ⟨_, b1⟩
    | 2, _ => exact ⟨_, b2⟩
    | 3, _ => exact ⟨_, b3⟩))
  have hbrw : w.heap.size ≤ br := by have := HBR.out; omega
  have hTf := Touch.setsNew (F := fun k => k = g) (w := w) (g := br) hbrw [.string id, .int .i64 r1, .int .i64 (50 * r2), .slice (some ⟨q, 0, none⟩) 3 3] 0 (T4.setNew (p := ⟨bx, 3, none⟩) (by show w.heap.size ≤ bx; omega) (.slice (some ⟨q, 0, none⟩) 3 3))
  have hT6 : Touch (fun k => k = bx ∨ k = br) w3 ((w3.setCell ⟨bx, 3, none⟩ (.slice (some ⟨q, 0, none⟩) 3 3)).setCells br 0 [.string id, .int .i64 r1, .int .i64 (50 * r2), .slice (some ⟨q, 0, none⟩) 3 3]) :=
    (Touch.setCell (F := fun k => k = bx ∨ k = br) (p := ⟨bx, 3, none⟩) (.inl rfl) _).trans (Touch.setCells (F := fun k => k = bx ∨ k = br) (.inr rfl) _ _)
  have hSf : SrcW g (m + 10) ((w3.setCell ⟨bx, 3, none⟩ (.slice (some ⟨q, 0, none⟩) 3 3)).setCells br 0 [.string id, .int .i64 r1, .int .i64 (50 * r2), .slice (some ⟨q, 0, none⟩) 3 3]) := (hS.touch hT6 (fun k hk h => by omega)).more (by omega)
  have hqf : Rd intE ((w3.setCell ⟨bx, 3, none⟩ (.slice (some ⟨q, 0, none⟩) 3 3)).setCells br 0 [.string id, .int .i64 r1, .int .i64 (50 * r2), .slice (some ⟨q, 0, none⟩) 3 3]) (some ⟨q, 0, none⟩) 3 c := hq.touch hT6 fun _ b o p e hk => by cases e; omega
  have hqz : q < ((w3.setCell ⟨bx, 3, none⟩ (.slice (some ⟨q, 0, none⟩) 3 3)).setCells br 0 [.string id, .int .i64 r1, .int .i64 (50 * r2), .slice (some ⟨q, 0, none⟩) 3 3]).heap.size := by have := hT6.size; omega
  have hqw : w.heap.size ≤ q := by omega
  clear hRV hfV hR4 hf4 hR5 hf5 hxf3 hxfV TV T4 hT5 hT6 hS hq t3 hBV
  go_wp2
  change bodyPost _ _ _ _ _ ((w3.setCell ⟨bx, 3, none⟩ (.slice (some ⟨q, 0, none⟩) 3 3)).setCells br 0 [.string id, .int .i64 r1, .int .i64 (50 * r2), .slice (some ⟨q, 0, none⟩) 3 3])
  have HF' := HF.out
  generalize ((w3.setCell ⟨bx, 3, none⟩ (.slice (some ⟨q, 0, none⟩) 3 3)).setCells br 0 [.string id, .int .i64 r1, .int .i64 (50 * r2), .slice (some ⟨q, 0, none⟩) 3 3]) = Wf at *
  have qf0 := HF' 0 _ rfl
  have qf1 := HF' 1 _ rfl
  have qf2 := HF' 2 _ rfl
  have qf3 := HF' 3 _ rfl
  simp only [Nat.zero_add] at qf0 qf1 qf2 qf3
  exact bodyPost_ret (v := .agg #[.string id, .int .i64 r1, .int .i64 (50 * r2), .slice (some ⟨q, 0, none⟩) 3 3]) (by simp [results, Tryz.results44, go_sem, qf0, qf1, qf2, qf3]) rfl ⟨q, ⟨id, r1, 50 * r2, c⟩, ⟨rfl, by simp only; omega, by simp only; omega, hc⟩, rfl, hqf, hqw, hqz, hSf, hTf⟩

theorem Tryz.infoCoat : (Tryz.prog.info? 36).map (fun i => (i.zero, i.size, i.bytes)) = some (some (.agg #[.string ⟨#[]⟩, .int .i64 0, .int .i64 0, .slice none 0 0]), 4, 56) := by kernel_rfl
set_option maxHeartbeats 2000000 in
theorem s_l13Draw (g m : Nat) (w : World) (h : SrcW g m w) (hm : m ≤ 1000) :
    Calls Tryz.prog 22 #[.pointer (some ⟨g, 0, none⟩)] w fun e w' => ∃ (A : Option Addr) (n c : Nat) (l : List DCoat), CoatList coatnames l ∧ l.length = n ∧ e = .returned (.slice A n c) ∧ RdCoat w' A n l ∧ Touch (fun k => k = g) w w' := by
  obtain ⟨i0, hi, hz0, hz1, hz2⟩ := info_parts Tryz.infoCoat
  have HZ := Lib.hid (And.intro hz0 hz1); clear hz0 hz1
  have hg := h.lt
  have hN : Rd strE (w.alloc (.cells #[.string ⟨#[97, 109, 98, 101, 114]⟩, .string ⟨#[98, 114, 111, 119, 110]⟩, .string ⟨#[99, 108, 101, 97, 114]⟩, .string ⟨#[114, 101, 100]⟩] 9)) (some ⟨w.heap.size, 0, none⟩) 4 coatnames := Rd.lit1 strE rfl rfl rfl
  obtain ⟨W0, hW0⟩ : ∃ W0, w.alloc (.cells #[.string ⟨#[97, 109, 98, 101, 114]⟩, .string ⟨#[98, 114, 111, 119, 110]⟩, .string ⟨#[99, 108, 101, 97, 114]⟩, .string ⟨#[114, 101, 100]⟩] 9) = W0 := ⟨_, rfl⟩
  have z0 : W0.heap.size = w.heap.size + 1 := by rw [← hW0]; simp
  have b0 : Below w.heap.size w W0 := hW0 ▸ (Below.refl _ _).alloc (Nat.le_refl _) _
  rw [hW0] at hN
  have hG0 : GL rawCE 36 (w.heap.size + 1) (W0.alloc (.cells #[] 36)) (.slice (some ⟨W0.heap.size, 0, none⟩) 0 0) [] := GL.mk0 (by omega)
  have hN1 := hN.alloc (.cells #[] 36)
  have b1 : Below w.heap.size w (W0.alloc (.cells #[] 36)) := b0.alloc (by omega) _
  obtain ⟨W1, hW1⟩ : ∃ W1, W0.alloc (.cells #[] 36) = W1 := ⟨_, rfl⟩
  rw [hW1] at hG0 hN1 b1
  have h1 : SrcW g m W1 := h.below b1
  have T1 : Touch (fun k => k = g) w W1 := Touch.of_below b1
  have HZW : Hid (W0.heap.size = w.heap.size + 1) := Lib.hid z0
  clear hN b0 b1 z0
  go_enter Tryz.func22, Tryz.ntmps22
  go_wp2_with fail
  try rw [hW0]
  try rw [hW1]
  have HG0 := Lib.hid (CW.nil hG0)
  have HN1 := Lib.hid hN1
  clear hW0 hW1 hG0 hN1
  go_loopw [4, 5] (fun v i wr => ∃ (k mm : Nat) (A : Option Addr) (n c : Nat) (r : List RawC) (l : List DCoat), k ≤ 4 ∧ i = .int .i64 k ∧ v = .slice A n c ∧ n ≤ k ∧ mm ≤ m + 14 * k ∧ Hid (CW 36 (w.heap.size + 1) wr A n c r l) ∧ Hid (CoatList (coatnames.take k) l) ∧ SrcW g mm wr ∧ Rd strE wr (some ⟨w.heap.size, 0, none⟩) 4 coatnames ∧ Touch (fun k => k = g) w wr ∧ w.heap.size < wr.heap.size) (fun _ i _ => 4 - (intOf i).toNat)
  case atStart => exact ⟨0, m, _, 0, 0, [], [], by omega, rfl, rfl, by omega, by omega, HG0, Lib.hid (CoatList.nil _), h1, HN1.out, T1, HN1.out.blockLt (by omega) _ _ _ rfl⟩
  case round =>
    obtain ⟨k, mm, A, n, c, r, l, hk, rfl, rfl, hn, hmm, HCW, HL, hS, hrd, hT, hwz⟩ := hrel
    clear HG0 HN1 T1 h1
    by_cases hlt : k < 4
    · obtain ⟨b, off, x, hA, hx, hc⟩ := hrd.get hlt
      cases hA
      have hx0 := hc 0 (.string x) rfl
      simp only [strE, Nat.mul_one, Nat.add_zero, Nat.zero_add] at hx0
      have HX := Lib.hid hx
      clear hc hx
      go_wp2_with fail
      refine (s_pick g mm 3 wr hS (by omega) (by omega) (by omega)).mono ?_
      rintro e w1 ⟨p, hp, rfl, hS1, ht1⟩
      have hcw1 := HCW.out.touch ht1 fun k hk => by omega
      have hrd1 := hrd.touch ht1 fun _ b o p e => by cases e; omega
      replace hx0 := touch_cell ht1 (by simp; omega) hx0
      replace hT := hT.trans ht1
      have hwz1 : w.heap.size < w1.heap.size := Nat.lt_of_lt_of_le hwz ht1.size
      clear HCW hrd hS ht1
      by_cases hr0 : 0 < p
      · go_wp2_with fail
        refine (s_l13DrawOne g (mm + 2) x w1 hS1 (by omega)).mono ?_
        rintro e w2 ⟨qb, q, hq, rfl, hrq, hqb0, hqb1, hS2, ht2⟩
        have hcw2 := hcw1.touch ht2 fun k hk => by omega
        have hrd2 := hrd1.touch ht2 fun _ b o p e => by cases e; omega
        have hqn : Value.ownBlock (.slice A n c) ≠ some qb := fun e => by have := (hcw1.own.lt qb e).2; omega
        replace hT := hT.trans ht2
        have HQ := Lib.hid (HL.out.push HX.out hq)
        have hz2' : w.heap.size + 1 ≤ w2.heap.size := by have := ht2.size; omega
        have hgo := hcw2.own
        clear hcw1 hrd1 hS1 ht2 hx0 HL HX hq
        go_wp2_with (at_builtin; refine wpList_pushO rawCE rfl _ _ 24 rfl (w.heap.size + 1) 36 i0 _ 56 Tryz.underlying24 hi HZ.out.1 HZ.out.2 hz2 rfl A n c r ⟨q.fId, q.fDays, q.fCover, some ⟨qb, 0, none⟩, 3, 3⟩ rfl (hgo.alloc _) w2.heap.size rfl (range_new _ _ _) (by omega) (by decide) (Nat.le_trans hz2' (by simp)) ?_; intro A2 c2 w4 hgl4 ht4 hn4)
        have hal : Below w2.heap.size w2 (w2.alloc (.cells #[.string q.fId, .int .i64 q.fDays, .int .i64 q.fCover, .slice (some ⟨qb, 0, none⟩) 3 3] 36)) := (Below.refl _ _).alloc (Nat.le_refl _) _
        have hlo : ∀ k, Value.ownBlock (.slice A n c) = some k → w.heap.size + 1 ≤ k := fun k hk => (hgo.lt k hk).1
        have hS3 : SrcW g (mm + 12) w4 := ((hS2.below hal).touch ht4 fun k hk e => by have := hlo k e; omega).more (by omega)
        have hrd4 := (hrd2.below hal).touch ht4 fun _ b o p e hk => by cases e; have := hlo _ hk; omega
        have hT4 : Touch (fun k => k = g) w w4 := (hT.allocT _).transNew ht4 fun k hk => by have := hlo k hk; omega
        have HC4 : Hid (CW 36 (w.heap.size + 1) w4 A2 (n + 1) c2 (r ++ [⟨q.fId, q.fDays, q.fCover, some ⟨qb, 0, none⟩, 3, 3⟩]) (l ++ [q])) := Lib.hid (CW.push (q := qb) (hcw2.touch (F := fun _ => False) (Touch.of_below hal) fun k hk => hk.elim) ⟨rfl, rfl, rfl⟩ (hrq.below hal) rfl (by omega) (by simp; omega) hqn hgl4 ht4 hn4)
        have hwz4 : w.heap.size < w4.heap.size := hrd4.blockLt (by omega) _ _ _ rfl
        clear hcw2 hrd2 hS2 ht4 hT hgo hgl4 hn4 hal hrq
        go_wp2
        first | (refine ⟨⟨k + 1, mm + 12, A2, n + 1, c2, _, l ++ [q], by omega, by go_num, rfl, by omega, by omega, HC4, HQ, hS3, hrd4, hT4, hwz4⟩, ?_⟩; (simp [intOf]; omega)) | (go_roundw; (case rel => first | exact ⟨k + 1, mm + 12, A2, n + 1, c2, _, l ++ [q], by omega, by go_num, rfl, by omega, by omega, HC4, HQ, hS3, hrd4, hT4, hwz4⟩ | ((try refine ⟨trivial, ?_⟩); (repeat apply Exists.intro); exact ⟨⟨k + 1, mm + 12, A2, n + 1, c2, _, l ++ [q], by omega, by go_num, rfl, by omega, by omega, HC4, HQ, hS3, hrd4, hT4, hwz4⟩, rfl⟩)); (case measure => (simp [intOf]; omega)))
      · obtain rfl : p = 0 := by omega
        have HQ := Lib.hid (HL.out.skip HX.out)
        have HC1 := Lib.hid hcw1
        clear HL HX hx0 hr0 hcw1
        go_wp2
        first | (refine ⟨⟨k + 1, mm + 2, A, n, c, r, l, by omega, by go_num, rfl, by omega, by omega, HC1, HQ, hS1, hrd1, hT, hwz1⟩, ?_⟩; (simp [intOf]; omega)) | (go_roundw; (case rel => first | exact ⟨k + 1, mm + 2, A, n, c, r, l, by omega, by go_num, rfl, by omega, by omega, HC1, HQ, hS1, hrd1, hT, hwz1⟩ | ((try refine ⟨trivial, ?_⟩); (repeat apply Exists.intro); exact ⟨⟨k + 1, mm + 2, A, n, c, r, l, by omega, by go_num, rfl, by omega, by omega, HC1, HQ, hS1, hrd1, hT, hwz1⟩, rfl⟩)); (case measure => (simp [intOf]; omega)))
    · have HQ : Hid (CoatList coatnames l) := Lib.hid (by have h := HL.out; rw [List.take_of_length_le (by show 4 ≤ k; omega)] at h; exact h)
      have hl := HCW.out.rd.len
      clear HL hrd hS
      go_wp2
      go_ret
      exact ⟨A, n, c, l, HQ.out, hl, rfl, HCW.out.rd, hT⟩

theorem s_R8Coats (A : Option Addr) (n c : Nat) (l : List UInt8) (w : World) (hr : Rd byteE w A n l) (hn : n ≤ 1048576) :
    Calls Tryz.prog 5 #[.slice A n c] w fun e w' => ∃ (A' : Option Addr) (n' c' : Nat) (l' : List DCoat), OkCs l' ∧ n' ≤ 4 ∧ e = .returned (.slice A' n' c') ∧ RdCoat w' A' n' l' ∧ Below w.heap.size w w' := by
  go_enter Tryz.func5, Tryz.ntmps5
  go_wp2_with fail
  refine (s_l00From A n c l w hr hn).mono ?_
  rintro e w1 ⟨rfl, hS, hz, hb⟩
  go_wp2_with fail
  refine (s_l13Draw _ 0 w1 hS (by omega)).mono ?_
  rintro e w2 ⟨A', n', c', l', hq, hl, rfl, hg, ht⟩
  have hB := Below.touch hb ht (fun k hk => by omega) hb.size
  have hn5 : n' ≤ 4 := by have := hq.len; rw [hl] at this; exact this
  go_wp2
  go_ret
  exact ⟨A', n', c', l', hq.okAll, hn5, rfl, hg, hB⟩
theorem s_R8Colour (A : Option Addr) (n c : Nat) (l : List UInt8) (w : World) (hr : Rd byteE w A n l) (hn : n ≤ 1048576) :
    Calls Tryz.prog 6 #[.slice A n c] w fun e w' => ∃ (B : Option Addr) (g : List Int), Col g ∧ e = .returned (.slice B 3 3) ∧ Rd intE w' B 3 g ∧ Below w.heap.size w w' := by
  go_enter Tryz.func6, Tryz.ntmps6
  go_wp2_with fail
  refine (s_l00From A n c l w hr hn).mono ?_
  rintro e w1 ⟨rfl, hS, hz, hb⟩
  go_wp2_with fail
  refine (s_l13DrawColour _ 0 w1 hS (by omega)).mono ?_
  rintro e w2 ⟨q, g, hc, rfl, hrq, _, _, _, ht⟩
  have hB := Below.touch hb ht (fun k hk => by omega) hb.size
  go_wp2
  go_ret
  exact ⟨_, g, hc, rfl, hrq, hB⟩
end Go.Proofs.YtbdjhecbingcjaaGreatDoor

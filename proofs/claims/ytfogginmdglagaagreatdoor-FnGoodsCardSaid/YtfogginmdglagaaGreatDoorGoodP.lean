/- Goods: the walks of PutGood and TakePieces; the good that a law draws. Printed by a program of mine. -/
import Derived.Test.YtfogginmdglagaaGreatDoorRows
import Derived.Test.YtfogginmdglagaaGreatDoorGoodF
import Derived.Test.YtfogginmdglagaaGreatDoorGoodPut
import Derived.Test.YtfogginmdglagaaGreatDoorDrawRGood
import Derived.StillTailTactics
namespace Go.Proofs.YtfogginmdglagaaGreatDoor
set_option linter.unusedVariables false
set_option linter.unusedSimpArgs false
set_option linter.unusedSectionVars false
open Go.RowKit

theorem flat_set1 {α : Type} (E : Enc α) {l : List α} {p j : Nat} {x x' : α} {v : Value} (hx : l[p]? = some x) (h : E.cells x' = (E.cells x).set j v) (hj : j < E.k) : (l.flatMap E.cells).set (p * E.k + j) v = (l.set p x').flatMap E.cells := by
  have hp := (List.getElem?_eq_some_iff.1 hx).1
  have h1 : l = l.take p ++ (x :: l.drop (p + 1)) := by rw [← drop_of_get hx, List.take_append_drop]
  have h2 : l.set p x' = l.take p ++ (x' :: l.drop (p + 1)) := by rw [List.set_eq_take_append_cons_drop, if_pos hp]
  have hl : ((l.take p).flatMap E.cells).length = p * E.k := by rw [flat_len, List.length_take, Nat.min_eq_left (by omega)]
  rw [h2]
  conv => lhs; rw [h1]
  simp only [List.flatMap_append, List.flatMap_cons]
  rw [List.set_append_right _ _ (by rw [hl]; omega), hl, Nat.add_sub_cancel_left, List.set_append_left _ _ (by rw [E.len]; exact hj), h]
/-- one cell of an element is set -/
theorem GL.set1 {α : Type} {E : Enc α} {et : TypeId} {base g n c p j : Nat} {w : World} {l : List α} {x x' : α} {v : Value} (hg : GL E et base w (.slice (some ⟨g, 0, none⟩) n c) l) (hx : l[p]? = some x) (h : E.cells x' = (E.cells x).set j v) (hj : j < E.k) :
    GL E et base (w.setCell ⟨g, p * E.k + j, none⟩ v) (.slice (some ⟨g, 0, none⟩) n c) (l.set p x') := by
  have h1 := (World.ownsRow.stored hg.own.2 (p * E.k + j) v).1
  rw [flat_set1 E hx h hj] at h1
  unfold GL
  rw [List.length_set, hg.own.1]
  exact h1
theorem GL.range0 {base : Nat} {w : World} {g n c p : Nat} {l : List DGood} {x : DGood} (hg : GL goodE 27 base w (.slice (some ⟨g, 0, none⟩) n c) l) (hx : l[p]? = some x) : w.rangeAt g (p * 4) (goodE.cells x) := fun j v hv => by
  have h := hg.range p
  rw [drop_of_get hx] at h
  refine h j v ?_
  rw [List.flatMap_cons, List.getElem?_append_left (List.getElem?_eq_some_iff.1 hv).1]
  exact hv
set_option maxRecDepth 100000 in
set_option maxHeartbeats 4000000 in
theorem i_TakePieces_yes (A : Option Addr) (n c : Nat) (l : List DGood) (id : ByteArray) (m : Int) (y : DGood) (w : World) (hr : Rd goodE w A n l) (hok : OkGoods l) (hf : foundG l id = true) (hy : l[posG l id]? = some y) (h0 : 0 ≤ m) (h1 : m ≤ 100000) (hm : m ≤ y.fCount) :
    Calls Tryz.prog 18 #[.slice A n c, .string id, .int .i64 m] w (RetLC goodE 27 (l.set (posG l id) (lessG y m)) 0 w) := by
  have hlt := found_lt hf
  have hb1 := (GB.of (hok.ok y (List.mem_of_getElem? hy))).c1
  have hI := fun W => i_isPieces m W
  rw [inB_true h0 h1] at hI
  obtain ⟨p, hp⟩ : ∃ p, posG l id = p := ⟨_, rfl⟩
  rw [hp] at hy hlt ⊢
  have hG := fun W hb => i_goodOf A n c l id W (hr.below hb) (by have := hok.few; have := hr.1; omega) hok
  rw [hp, hf] at hG
  have hlen := hr.1
  have hK := fun W (hb : Below w.heap.size w W) => i_cloneGood A n c l W (hr.below hb) (by have := hok.few; omega)
  have HY := Lib.hid hy
  clear hp hf hlen hy
  have Hl := Lib.hid hr.1
  have hn : n ≤ 16 := by have := hok.few; have := hr.1; omega
  have HO := Lib.hid hok
  have hV := fun W hb => i_ValidGoods_yes A n c l W (hr.below hb) hok
  have HR := Lib.hid hr
  clear hok hr
  go_enter Tryz.func18, Tryz.ntmps18
  go_wp2_with fail
  refine (hV _ (Below.refl _ _)).mono ?_
  rintro e w1 ⟨rfl, hb1'⟩
  have HB1 := Lib.hid hb1'
  have HR1 := Lib.hid (HR.out.below hb1')
  clear hV hb1' HR
  have hpn : p < n := by rw [← Hl.out]; exact hlt
  clear hlt
  go_wp2_with fail
  refine (hI _).mono ?_
  rintro e w' ⟨rfl, rfl⟩
  clear hI
  go_wp2_with fail
  refine (hG _ HB1.out).mono ?_
  rintro e w2 ⟨rfl, hb2⟩
  have HB2 := Lib.hid (HB1.out.trans (hb2.mono HB1.out.size))
  obtain ⟨b, off, rfl, hcs⟩ := HR1.out.2 (by omega)
  have hc1 := range_below (B := 0) (hcs p y HY.out) hb2 1 _ rfl
  simp only [goodE] at hc1
  have hnm : ¬ y.fCount < m := by omega
  clear hG hb2 hcs HB1 HR1
  go_wp2_with fail
  refine (hK _ HB2.out).mono ?_
  rintro e w3 ⟨g, rfl, hgl, hb3⟩
  have hd1 := hgl.range0 HY.out 1 _ rfl
  have hf1 := hgl.free (p * 4 + 1)
  have HG := Lib.hid (hgl.set1 (j := 1) (v := .int .i64 (y.fCount - m)) (x' := lessG y m) HY.out rfl (by show 1 < 4; omega))
  have hbF := (HB2.out.trans (hb3.mono HB2.out.size)).setCell (p := ⟨g, p * 4 + 1, none⟩) (Nat.le_trans HB2.out.size hgl.baseLe) (.int .i64 (y.fCount - m))
  have hlow : w.heap.size ≤ w2.heap.size := HB2.out.size
  clear hK hb3 hc1 hnm hgl
  go_wp2
  go_ret2
  exact RetLC.mk (HG.out.mono hlow) (by omega) rfl rfl hbF
set_option maxRecDepth 100000 in
set_option maxHeartbeats 4000000 in
theorem i_TakePieces_no (A : Option Addr) (n c : Nat) (l : List DGood) (id : ByteArray) (m : Int) (y : DGood) (w : World) (hr : Rd goodE w A n l) (hok : OkGoods l) (hf : foundG l id = true) (hy : l[posG l id]? = some y) (h0 : 0 ≤ m) (h1 : m ≤ 100000) (hm : y.fCount < m) :
    Calls Tryz.prog 18 #[.slice A n c, .string id, .int .i64 m] w fun e w' => e = .returned (.tuple #[.slice none 0 0, .int .i64 6]) ∧ Below w.heap.size w w' := by
  have hlt := found_lt hf
  have hI := fun W => i_isPieces m W
  rw [inB_true h0 h1] at hI
  obtain ⟨p, hp⟩ : ∃ p, posG l id = p := ⟨_, rfl⟩
  rw [hp] at hy hlt
  have hG := fun W hb => i_goodOf A n c l id W (hr.below hb) (by have := hok.few; have := hr.1; omega) hok
  rw [hp, hf] at hG
  have HY := Lib.hid hy
  clear hp hf hy
  have Hl := Lib.hid hr.1
  have hn : n ≤ 16 := by have := hok.few; have := hr.1; omega
  have HO := Lib.hid hok
  have hV := fun W hb => i_ValidGoods_yes A n c l W (hr.below hb) hok
  have HR := Lib.hid hr
  clear hok hr
  go_enter Tryz.func18, Tryz.ntmps18
  go_wp2_with fail
  refine (hV _ (Below.refl _ _)).mono ?_
  rintro e w1 ⟨rfl, hb1'⟩
  have HB1 := Lib.hid hb1'
  have HR1 := Lib.hid (HR.out.below hb1')
  clear hV hb1' HR
  have hpn : p < n := by rw [← Hl.out]; exact hlt
  clear hlt
  go_wp2_with fail
  refine (hI _).mono ?_
  rintro e w' ⟨rfl, rfl⟩
  clear hI
  go_wp2_with fail
  refine (hG _ HB1.out).mono ?_
  rintro e w2 ⟨rfl, hb2⟩
  have HB2 := Lib.hid (HB1.out.trans (hb2.mono HB1.out.size))
  obtain ⟨b, off, rfl, hcs⟩ := HR1.out.2 (by omega)
  have hc1 := range_below (B := 0) (hcs p y HY.out) hb2 1 _ rfl
  simp only [goodE] at hc1
  clear hG hb2 hcs HB1 HR1
  go_wp2
  go_ret2
  exact ⟨rfl, HB2.out⟩
set_option maxRecDepth 100000 in
set_option maxHeartbeats 4000000 in
theorem i_PutGood (A : Option Addr) (n c : Nat) (l : List DGood) (x : DGood) (w : World) (hr : Rd goodE w A n l) (hok : OkGoods l) (hx : okGood x = true) (hs : x.fId.size ≤ maxLen) (hp : OkGoods (putG l x)) :
    Calls Tryz.prog 16 #[.slice A n c, .agg #[.string x.fId, .int .i64 x.fCount, .int .i64 x.fLeast, .int .i64 x.fPrice]] w (RetLC goodE 27 (putG l x) 0 w) := by
  have Hl := Lib.hid hr.1
  have hn : n ≤ 16 := by have := hok.few; have := hr.1; omega
  have hV := fun W hb => i_ValidGoods_yes A n c l W (hr.below hb) hok
  have hU := fun W => i_validGood x W hs
  rw [hx] at hU
  have hK := fun W (hb : Below w.heap.size w W) => i_cloneGood A n c l W (hr.below hb) (by omega)
  have hG := fun W hb => i_goodOf A n c l x.fId W (hr.below hb) (by omega) hok
  have HZ := Lib.hid (fun (A : Option Addr) (n c : Nat) (W : World) (h : Rd goodE W A n (putG l x)) => i_ValidGoods_yes A n c (putG l x) W h hp)
  have hxb := GB.of hx
  have hxc0 := hxb.c0; have hxc1 := hxb.c1
  have HO := Lib.hid hok
  have HR := Lib.hid hr
  have hpl : posG l x.fId ≤ n := by have := (hok.parts x.fId).le; rw [hr.1] at this; exact this
  clear hok hr hxb hp hx
  have hfz := new_free w #[.string x.fId, .int .i64 x.fCount, .int .i64 x.fLeast, .int .i64 x.fPrice] 27 1
  have hR := range_new w #[.string x.fId, .int .i64 x.fCount, .int .i64 x.fLeast, .int .i64 x.fPrice] 27
  have hb0 : Below w.heap.size w (w.alloc (.cells #[.string x.fId, .int .i64 x.fCount, .int .i64 x.fLeast, .int .i64 x.fPrice] 27)) := (Below.refl _ _).alloc (Nat.le_refl _) _
  obtain ⟨W0, hW0⟩ : ∃ W0, w.alloc (.cells #[.string x.fId, .int .i64 x.fCount, .int .i64 x.fLeast, .int .i64 x.fPrice] 27) = W0 := ⟨_, rfl⟩
  rw [hW0] at hR hb0
  have hx0 := hR 0 _ rfl
  have hx1 := hR 1 _ rfl
  have hx2 := hR 2 _ rfl
  have hx3 := hR 3 _ rfl
  simp only [Nat.zero_add] at hx0 hx1 hx2 hx3
  rw [hW0] at hfz
  clear hR
  go_enter Tryz.func16, Tryz.ntmps16
  go_wp2_with fail
  try rw [hW0]
  clear hW0
  refine (hV _ hb0).mono ?_
  rintro e w1 ⟨rfl, hb1⟩
  replace hfz := free_later hfz (World.block_lt_of_cell? _ _ hx1) hb1
  replace hx0 := cell_later hb1 hx0
  replace hx1 := cell_later hb1 hx1
  replace hx2 := cell_later hb1 hx2
  replace hx3 := cell_later hb1 hx3
  replace hb0 := hb0.trans (hb1.mono hb0.size)
  clear hV hb1
  go_wp2_with fail
  refine (hU _).mono ?_
  rintro e w2 ⟨rfl, hb1⟩
  replace hfz := free_later hfz (World.block_lt_of_cell? _ _ hx1) hb1
  replace hx0 := cell_later hb1 hx0
  replace hx1 := cell_later hb1 hx1
  replace hx2 := cell_later hb1 hx2
  replace hx3 := cell_later hb1 hx3
  replace hb0 := hb0.trans (hb1.mono hb0.size)
  clear hU hb1
  go_wp2_with fail
  refine (hK _ hb0).mono ?_
  rintro e w3 ⟨g, rfl, hgl, hb1⟩
  have hw2 : w.heap.size < w2.heap.size := World.block_lt_of_cell? _ _ hx0
  replace hfz := free_later hfz (World.block_lt_of_cell? _ _ hx1) hb1
  replace hx0 := cell_later hb1 hx0
  replace hx1 := cell_later hb1 hx1
  replace hx2 := cell_later hb1 hx2
  replace hx3 := cell_later hb1 hx3
  have hgw : w.heap.size < g := by have := hgl.baseLe; omega
  have hlow : w.heap.size ≤ w2.heap.size := hb0.size
  replace hb0 := hb0.trans (hb1.mono hb0.size)
  clear hK hb1
  go_wp2_with fail
  refine (hG _ hb0).mono ?_
  rintro e w4 ⟨rfl, hb1⟩
  replace hfz := free_later hfz (World.block_lt_of_cell? _ _ hx1) hb1
  replace hx0 := cell_later hb1 hx0
  replace hx1 := cell_later hb1 hx1
  replace hx2 := cell_later hb1 hx2
  replace hx3 := cell_later hb1 hx3
  replace hb0 := hb0.trans (hb1.mono hb0.size)
  have hgl4 := (hgl.below hb1).mono hlow
  clear hG hb1 hgl hlow
  obtain ⟨p, hpp⟩ : ∃ p, posG l x.fId = p := ⟨_, rfl⟩
  rw [hpp] at hpl ⊢
  have HP := Lib.hid hpp
  clear hpp
  rcases hf : foundG l x.fId with _ | _
  · have E : Hid (putG l x = l.take p ++ [x] ++ l.drop p) := Lib.hid (by unfold putG; rw [hf, if_neg (by simp), HP.out])
    clear hf
    have hbs := hb0.size
    go_wp2_with fail
    refine (i_InsertGood g n p _ w.heap.size l x _ w (hgl4.alloc _) hpl (by omega) (range_new' _ _ _ rfl) (hb0.alloc hb0.size _) (by simp; omega)).mono ?_
    rintro e w5 ⟨A3, c3, rfl, hgl5, hb5⟩
    rw [← E.out] at hgl5
    go_wp2_with fail
    refine (HZ.out _ _ _ _ hgl5.rd).mono ?_
    rintro e w6 ⟨rfl, hb6⟩
    have hgl6 := hgl5.below hb6
    have hb7 := hb5.trans (hb6.mono hb5.size)
    go_wp2
    go_ret2
    exact RetLC.mk hgl6 (by omega) rfl rfl hb7
  · obtain ⟨y, hy, hyi⟩ := found_at hf
    have hhad := had_some hy hf
    rw [HP.out] at hy
    have hpn : p < n := by rw [← Hl.out]; exact (List.getElem?_eq_some_iff.1 hy).1
    have E : Hid (putG l x = l.set p ⟨x.fId, x.fCount + y.fCount, x.fLeast, x.fPrice⟩) := Lib.hid (by unfold putG newG; rw [hf, if_pos rfl, HP.out, hhad])
    have hyb := HO.out.gb y (List.mem_of_getElem? hy)
    have hy1 := hyb.c0; have hy2 := hyb.c1
    obtain ⟨b, off, rfl, hcs⟩ := (HR.out.below hb0).2 (by omega)
    have hc1 := hcs p y hy 1 _ rfl
    simp only [goodE] at hc1
    have HY := Lib.hid hy
    clear hf hyi hhad hy hyb hcs
    go_wp2_with fail
    go_still_tail 9, (by kernel_rfl)
    change wpList _ _ _ _ _ w4.drew
    obtain ⟨V, hV⟩ : ∃ V, (w4.setCell ⟨w.heap.size, 1, none⟩ (.int .i64 (x.fCount + y.fCount))).drew = V := ⟨_, rfl⟩
    have hv0 : V.cell? ⟨w.heap.size, 0, none⟩ = some (.string x.fId) := hV ▸ (World.cell?_setCell_other _ _ _ _ (by simp)).trans hx0
    have hv1 : V.cell? ⟨w.heap.size, 1, none⟩ = some (.int .i64 (x.fCount + y.fCount)) := hV ▸ World.cell?_setCell_same _ _ _ hx1
    have hv2 : V.cell? ⟨w.heap.size, 2, none⟩ = some (.int .i64 x.fLeast) := hV ▸ (World.cell?_setCell_other _ _ _ _ (by simp)).trans hx2
    have hv3 : V.cell? ⟨w.heap.size, 3, none⟩ = some (.int .i64 x.fPrice) := hV ▸ (World.cell?_setCell_other _ _ _ _ (by simp)).trans hx3
    have hgV : GL goodE 27 w.heap.size V (.slice (some ⟨g, 0, none⟩) n n) l := hV ▸ (hgl4.touch (Touch.setCell (F := fun k => k = w.heap.size) (p := ⟨w.heap.size, 1, none⟩) rfl (.int .i64 (x.fCount + y.fCount))) (fun k hk e => by have h2 : g = k := Option.some.inj hk; omega)).drew
    have hbV : Below w.heap.size w V := hV ▸ (hb0.setCell (p := ⟨w.heap.size, 1, none⟩) (Nat.le_refl _) (.int .i64 (x.fCount + y.fCount))).drew
    obtain ⟨u0, hu0⟩ := Option.isSome_iff_exists.1 (hgV.cell (j := p * 4) (by show _ < n * 4; omega))
    obtain ⟨u1, hu1⟩ := Option.isSome_iff_exists.1 (hgV.cell (j := p * 4 + 1) (by show _ < n * 4; omega))
    obtain ⟨u2, hu2⟩ := Option.isSome_iff_exists.1 (hgV.cell (j := p * 4 + 2) (by show _ < n * 4; omega))
    obtain ⟨u3, hu3⟩ := Option.isSome_iff_exists.1 (hgV.cell (j := p * 4 + 3) (by show _ < n * 4; omega))
    have hf0 := hgV.free (p * 4)
    have hf1 := hgV.free (p * 4 + 1)
    have hf2 := hgV.free (p * 4 + 2)
    have hf3 := hgV.free (p * 4 + 3)
    have HG := Lib.hid (hgV.splice p [⟨x.fId, x.fCount + y.fCount, x.fLeast, x.fPrice⟩] (by simp; omega))
    have HB3 := Lib.hid (below_setCells hgV.baseLe ([(⟨x.fId, x.fCount + y.fCount, x.fLeast, x.fPrice⟩ : DGood)].flatMap goodE.cells) (p * 4) hbV)
    clear hgV hbV hgl4
    go_wp2_with fail
    change Calls _ _ _ (V.setCells g (p * 4) ([(⟨x.fId, x.fCount + y.fCount, x.fLeast, x.fPrice⟩ : DGood)].flatMap goodE.cells)) _
    have hG3 : GL goodE 27 w.heap.size (V.setCells g (p * 4) ([(⟨x.fId, x.fCount + y.fCount, x.fLeast, x.fPrice⟩ : DGood)].flatMap goodE.cells)) (.slice (some ⟨g, 0, none⟩) n n) (l.take p ++ [(⟨x.fId, x.fCount + y.fCount, x.fLeast, x.fPrice⟩ : DGood)] ++ l.drop (p + [(⟨x.fId, x.fCount + y.fCount, x.fLeast, x.fPrice⟩ : DGood)].length)) := HG.out
    have hB3 := HB3.out
    generalize V.setCells g (p * 4) ([(⟨x.fId, x.fCount + y.fCount, x.fLeast, x.fPrice⟩ : DGood)].flatMap goodE.cells) = V3 at *
    have hset : l.take p ++ [(⟨x.fId, x.fCount + y.fCount, x.fLeast, x.fPrice⟩ : DGood)] ++ l.drop (p + [(⟨x.fId, x.fCount + y.fCount, x.fLeast, x.fPrice⟩ : DGood)].length) = putG l x := by
      rw [E.out, List.set_eq_take_append_cons_drop, if_pos (by rw [Hl.out]; exact hpn)]
      simp
    have hG4 : GL goodE 27 w.heap.size V3 (.slice (some ⟨g, 0, none⟩) n n) (putG l x) := hset ▸ hG3
    refine (HZ.out _ _ _ _ hG4.rd).mono ?_
    rintro e w6 ⟨rfl, hb6⟩
    have hgl6 := hG4.below hb6
    have hb7 := hB3.trans (hb6.mono hB3.size)
    go_wp2
    go_ret2
    exact RetLC.mk hgl6 (by omega) rfl rfl hb7
theorem s_text (g m : Nat) (A : Option Addr) (n c : Nat) (l : List ByteArray) (w : World) (h : SrcW g m w) (hm : m ≤ 1000000) (hr : Rd strE w A n l) (hn : n ≤ 65536) (h1 : 1 ≤ n) (hA : ∀ b o p, A = some ⟨b, o, p⟩ → b ≠ g) :
    Calls Tryz.prog 22 #[.pointer (some ⟨g, 0, none⟩), .slice A n c] w fun e w' => ∃ s ∈ l, e = .returned (.string s) ∧ SrcW g (m + 2) w' ∧ Touch (fun k => k = g) w w' := by
  go_enter Tryz.func22, Tryz.ntmps22
  go_wp2_with fail
  refine (s_pick g m n w h (by omega) h1 hn).mono ?_
  rintro e w1 ⟨r, hrn, rfl, hS, hT⟩
  obtain ⟨b, off, x, rfl, hx, hc⟩ := (hr.touch hT fun _ b o p e hk => hA b o p e hk).get hrn
  have hc0 := hc 0 (.string x) rfl
  simp only [strE, Nat.mul_one, Nat.add_zero] at hc0
  clear hc
  go_wp2
  go_ret
  exact ⟨x, List.mem_of_getElem? hx, rfl, hS, hT⟩
def goodids : List ByteArray := [⟨#[112, 101, 103]⟩, ⟨#[116, 97, 105, 108]⟩, ⟨#[119, 97, 120]⟩]
set_option maxRecDepth 100000 in
set_option maxHeartbeats 4000000 in
theorem s_R8Good (A : Option Addr) (n c : Nat) (l : List UInt8) (w : World) (hr : Rd byteE w A n l) (hn : n ≤ 1048576) :
    Calls Tryz.prog 6 #[.slice A n c] w fun e w' => ∃ q : DGood, q.fId ∈ goodids ∧ GoodDrawn q.fId q ∧ e = .returned (.agg #[.string q.fId, .int .i64 q.fCount, .int .i64 q.fLeast, .int .i64 q.fPrice]) ∧ Below w.heap.size w w' := by
  have hR := range_new w #[.string ⟨#[]⟩, .int .i64 0, .int .i64 0, .int .i64 0] 27
  have hfr := fun j => new_free w #[.string ⟨#[]⟩, .int .i64 0, .int .i64 0, .int .i64 0] 27 j
  obtain ⟨W0, hW0⟩ : ∃ W0, w.alloc (.cells #[.string ⟨#[]⟩, .int .i64 0, .int .i64 0, .int .i64 0] 27) = W0 := ⟨_, rfl⟩
  have b0 : Below w.heap.size w W0 := hW0 ▸ (Below.refl _ _).alloc (Nat.le_refl _) _
  have z0 : W0.heap.size = w.heap.size + 1 := by rw [← hW0]; simp
  rw [hW0] at hR hfr
  have hr0 := hr.below b0
  go_enter Tryz.func6, Tryz.ntmps6
  go_wp2_with fail
  try rw [hW0]
  clear hW0
  refine (s_l00From A n c l W0 hr0 hn).mono ?_
  rintro e w1 ⟨rfl, hS, hz, hb⟩
  have hR1 := range_below (B := 0) hR hb
  have hf1 : ∀ j, w1.frozen? ⟨w.heap.size, j, none⟩ = false := fun j => free_later (hfr j) (by simp; omega) hb
  have hN : Rd strE (w1.alloc (.cells #[.string ⟨#[112, 101, 103]⟩, .string ⟨#[116, 97, 105, 108]⟩, .string ⟨#[119, 97, 120]⟩] 9)) (some ⟨w1.heap.size, 0, none⟩) 3 goodids := Rd.lit1 strE rfl rfl rfl
  have hS1 : SrcW W0.heap.size 0 (w1.alloc (.cells #[.string ⟨#[112, 101, 103]⟩, .string ⟨#[116, 97, 105, 108]⟩, .string ⟨#[119, 97, 120]⟩] 9)) := hS.below ((Below.refl _ _).alloc (Nat.le_refl _) _)
  have bA : Below w1.heap.size w1 (w1.alloc (.cells #[.string ⟨#[112, 101, 103]⟩, .string ⟨#[116, 97, 105, 108]⟩, .string ⟨#[119, 97, 120]⟩] 9)) := (Below.refl _ _).alloc (Nat.le_refl _) _
  have hR2 := range_below (B := 0) hR1 bA
  have hf2 : ∀ j, (w1.alloc (.cells #[.string ⟨#[112, 101, 103]⟩, .string ⟨#[116, 97, 105, 108]⟩, .string ⟨#[119, 97, 120]⟩] 9)).frozen? ⟨w.heap.size, j, none⟩ = false := fun j => free_later (hf1 j) (by simp; omega) bA
  have bB := (b0.trans (hb.mono b0.size)).trans (bA.mono (b0.trans (hb.mono b0.size)).size)
  have hz1 : (w1.alloc (.cells #[.string ⟨#[112, 101, 103]⟩, .string ⟨#[116, 97, 105, 108]⟩, .string ⟨#[119, 97, 120]⟩] 9)).heap.size = w.heap.size + 3 := by simp; omega
  clear hR hfr hR1 hf1 b0 hb hr0 bA hS
  obtain ⟨gs, hgs⟩ : ∃ gs, W0.heap.size = gs := ⟨_, rfl⟩
  rw [hgs] at hS1 hz z0 ⊢
  have HZ := Lib.hid (And.intro z0 (And.intro hz hz1))
  clear hgs z0 hz hz1
  go_wp2_with fail
  obtain ⟨W2, hW2⟩ : ∃ W, w1.alloc (.cells #[.string ⟨#[112, 101, 103]⟩, .string ⟨#[116, 97, 105, 108]⟩, .string ⟨#[119, 97, 120]⟩] 9) = W := ⟨_, rfl⟩
  try rw [hW2]
  rw [hW2] at hN hS1 hR2 hf2 bB HZ
  clear hW2
  refine (s_text gs 0 _ 3 3 goodids _ hS1 (by omega) hN (by omega) (by omega) (fun b o p e => by cases e; have := HZ.out.2.1; omega)).mono ?_
  rintro e w3 ⟨s, hs, rfl, hS3, hT3⟩
  have hz0 := HZ.out.1
  have hz1 := HZ.out.2.2
  have hR3 := range_touch hR2 hT3 (by omega)
  have hf3 : ∀ j, w3.frozen? ⟨w.heap.size, j, none⟩ = false := fun j => free_touch (hf2 j) (by simp; omega) (by simp; omega) hT3
  have bC : Below w.heap.size w w3 := Below.touch bB hT3 (fun k hk => by omega) (by omega)
  have z3 : w.heap.size + 3 ≤ w3.heap.size := by have := hT3.size; omega
  clear hz0 hz1
  clear hR2 hf2 hT3 hS1 hN bB
  go_wp2_with fail
  refine (s_l26DrawOne gs (0 + 2) s _ hS3 (by omega)).mono ?_
  rintro e w4 ⟨q, hq, rfl, hS4, hT4⟩
  have hz0 := HZ.out.1
  have hR4 := range_touch hR3 hT4 (by omega)
  have hf4 : ∀ j, w4.frozen? ⟨w.heap.size, j, none⟩ = false := fun j => free_touch (hf3 j) (by simp; omega) (by simp; omega) hT4
  have bD : Below w.heap.size w w4 := Below.touch bC hT4 (fun k hk => by omega) (by omega)
  clear hR3 hf3 hT4 bC hS3 hS4 hz0
  have b0 := hR4 0 _ rfl
  have b1 := hR4 1 _ rfl
  have b2 := hR4 2 _ rfl
  have b3 := hR4 3 _ rfl
  simp only [Nat.zero_add] at b0 b1 b2 b3
  have f0 := hf4 0
  have f1 := hf4 1
  have f2 := hf4 2
  have f3 := hf4 3
  have HF := Lib.hid (set_cells (w := w4) (g := w.heap.size) (goodE.cells q) 0 (fun j hj => by
    match j, hj with
    | 0, _ => exact ⟨_, b0⟩
    | 1, _ => exact ⟨_, b1⟩
    | 2, _ => exact ⟨_, b2⟩
    | 3, _ => exact ⟨_, b3⟩))
  have hBF := below_setCells (Nat.le_refl w.heap.size) (goodE.cells q) 0 bD
  clear hR4 hf4
  go_wp2
  change bodyPost _ _ _ _ _ (w4.setCells w.heap.size 0 (goodE.cells q))
  have HF' := HF.out
  generalize w4.setCells w.heap.size 0 (goodE.cells q) = Wf at *
  have qf0 := HF' 0 _ rfl
  have qf1 := HF' 1 _ rfl
  have qf2 := HF' 2 _ rfl
  have qf3 := HF' 3 _ rfl
  simp only [Nat.zero_add] at qf0 qf1 qf2 qf3
  exact bodyPost_ret (v := .agg #[.string q.fId, .int .i64 q.fCount, .int .i64 q.fLeast, .int .i64 q.fPrice]) (by simp [results, Tryz.results6, go_sem, qf0, qf1, qf2, qf3]) rfl ⟨q, by rw [hq.name]; exact hs, by rw [hq.name]; exact hq, rfl, hBF⟩
end Go.Proofs.YtfogginmdglagaaGreatDoor

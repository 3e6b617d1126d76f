/- Drawn ones: Good. Printed by a program of mine. -/
import Derived.Test.YtfogginmdglagaaGreatDoorRows
import Derived.Test.YtfogginmdglagaaGreatDoorSrc
import Derived.Test.YtfogginmdglagaaGreatDoorRGood
import Derived.Test.YtfogginmdglagaaGreatDoorValGood
import Derived.Test.YtfogginmdglagaaGreatDoorTwo
import Derived.Test.YtfogginmdglagaaGreatDoorSrcMore
namespace Go.Proofs.YtfogginmdglagaaGreatDoor
set_option linter.unusedVariables false
set_option linter.unusedSimpArgs false
set_option linter.unusedSectionVars false
open Go.RowKit

structure GoodDrawn (id : ByteArray) (q : DGood) : Prop where
  name : q.fId = id
  bCount : 0 ≤ q.fCount ∧ q.fCount ≤ 39
  bLeast : 0 ≤ q.fLeast ∧ q.fLeast ≤ 39
  bPrice : 0 ≤ q.fPrice ∧ q.fPrice ≤ 2950
set_option maxRecDepth 100000 in
set_option maxHeartbeats 2000000 in
theorem s_l26DrawOne (g m : Nat) (id : ByteArray) (w : World) (h : SrcW g m w) (hm : m ≤ 1000000) :
    Calls Tryz.prog 21 #[.pointer (some ⟨g, 0, none⟩), .string id] w fun e w' => ∃ q : DGood, GoodDrawn id q ∧ e = .returned (.agg #[.string q.fId, .int .i64 q.fCount, .int .i64 q.fLeast, .int .i64 q.fPrice]) ∧ SrcW g (m + 6) w' ∧ Touch (fun k => k = g) w w' := by
  have hg := h.lt
  have hR := range_new w #[.string ⟨#[]⟩, .int .i64 0, .int .i64 0, .int .i64 0] 27
  have hfr := fun j => new_free w #[.string ⟨#[]⟩, .int .i64 0, .int .i64 0, .int .i64 0] 27 j
  obtain ⟨W0, hW0⟩ : ∃ W0, w.alloc (.cells #[.string ⟨#[]⟩, .int .i64 0, .int .i64 0, .int .i64 0] 27) = W0 := ⟨_, rfl⟩
  have T0 : Touch (fun k => k = g) w W0 := hW0 ▸ Touch.alloc _ _
  have h0 : SrcW g m W0 := h.below (hW0 ▸ (Below.refl _ _).alloc (Nat.le_refl _) _)
  have z0 : W0.heap.size = w.heap.size + 1 := by rw [← hW0]; simp
  rw [hW0] at hR hfr
  go_enter Tryz.func21, Tryz.ntmps21
  go_wp2_with fail
  try rw [hW0]
  clear hW0
  refine (s_pick g (m) 40 W0 h0 (by omega) (by omega) (by omega)).mono ?_
  rintro e w1 ⟨r1, l1, rfl, h1, t1⟩
  go_wp2_with fail
  refine (s_pick g (m + 2) 40 w1 h1 (by omega) (by omega) (by omega)).mono ?_
  rintro e w2 ⟨r2, l2, rfl, h2, t2⟩
  go_wp2_with fail
  have T2 := T0.trans (t1.trans t2)
  have hS := T2.size
  have z2 : w.heap.size < w2.heap.size := by have := (t1.trans t2).size; omega
  have hR2 : w2.rangeAt w.heap.size 0 _ := range_touch hR (t1.trans t2) (by omega)
  have hf2 : ∀ j, w2.frozen? ⟨w.heap.size, j, none⟩ = false := fun j => free_touch (hfr j) (by simp; omega) (by simp; omega) (t1.trans t2)
  clear hR hfr T0 t1 t2 h0 h1
  have hX := range_new w2 #[.string id, .int .i64 r1, .int .i64 r2, .int .i64 0] 27
  have hxf := fun j => new_free w2 #[.string id, .int .i64 r1, .int .i64 r2, .int .i64 0] 27 j
  obtain ⟨W2, hW2⟩ : ∃ W, w2.alloc (.cells #[.string id, .int .i64 r1, .int .i64 r2, .int .i64 0] 27) = W := ⟨_, rfl⟩
  have tA : Touch (fun k => k = g) w2 W2 := hW2 ▸ Touch.alloc _ _
  have hB : SrcW g (m + 2 + 2) W2 := h2.below (hW2 ▸ (Below.refl _ _).alloc (Nat.le_refl _) _)
  have zA : W2.heap.size = w2.heap.size + 1 := by rw [← hW2]; simp
  rw [hW2] at hX hxf
  rw [hW2]
  clear hW2
  have T3 := T2.trans tA
  have hR3 : W2.rangeAt w.heap.size 0 _ := range_touch hR2 tA (by omega)
  have hf3 : ∀ j, W2.frozen? ⟨w.heap.size, j, none⟩ = false := fun j => free_touch (hf2 j) (by simp; omega) (by simp; omega) tA
  have y0 := hX 0 _ rfl
  have y1 := hX 1 _ rfl
  have y2 := hX 2 _ rfl
  have y3 := hX 3 _ rfl
  simp only [Nat.zero_add] at y0 y1 y2 y3
  obtain ⟨bx, hbx⟩ : ∃ b, w2.heap.size = b := ⟨_, rfl⟩
  obtain ⟨br, hbr⟩ : ∃ b, w.heap.size = b := ⟨_, rfl⟩
  have zX : bx < W2.heap.size := by omega
  rw [hbx] at y0 y1 y2 y3 z2 hxf ⊢
  rw [hbr] at hR3 hf3 z2 hg ⊢
  clear hX hR2 hf2 T2 tA h2 zA
  refine (s_pick g (m + 2 + 2) 60 W2 hB (by omega) (by omega) (by omega)).mono ?_
  rintro e v3 ⟨r3, l3, rfl, h3, t3⟩
  replace y0 := touch_cell t3 (by simp; omega) y0
  replace y1 := touch_cell t3 (by simp; omega) y1
  replace y2 := touch_cell t3 (by simp; omega) y2
  replace y3 := touch_cell t3 (by simp; omega) y3
  replace hxf : ∀ j, v3.frozen? ⟨bx, j, none⟩ = false := fun j => free_touch (hxf j) (by simp; omega) (by simp; omega) t3
  replace hR3 := range_touch hR3 t3 (by omega)
  replace hf3 : ∀ j, v3.frozen? ⟨br, j, none⟩ = false := fun j => free_touch (hf3 j) (by simp; omega) (by simp; omega) t3
  replace T3 := T3.trans t3
  replace zX : bx < v3.heap.size := Nat.lt_of_lt_of_le zX t3.size
  clear t3 hB
  have xf := hxf 3
  have q0 : (v3.setCell ⟨bx, 3, none⟩ (.int .i64 (50 * r3))).cell? ⟨bx, 0, none⟩ = some (.string id) := (World.cell?_setCell_other _ _ _ _ (by simp)).trans y0
  have q1 : (v3.setCell ⟨bx, 3, none⟩ (.int .i64 (50 * r3))).cell? ⟨bx, 1, none⟩ = some (.int .i64 r1) := (World.cell?_setCell_other _ _ _ _ (by simp)).trans y1
  have q2 : (v3.setCell ⟨bx, 3, none⟩ (.int .i64 (50 * r3))).cell? ⟨bx, 2, none⟩ = some (.int .i64 r2) := (World.cell?_setCell_other _ _ _ _ (by simp)).trans y2
  have q3 : (v3.setCell ⟨bx, 3, none⟩ (.int .i64 (50 * r3))).cell? ⟨bx, 3, none⟩ = some (.int .i64 (50 * r3)) := World.cell?_setCell_same _ _ _ y3
  have hR5 : (v3.setCell ⟨bx, 3, none⟩ (.int .i64 (50 * r3))).rangeAt br 0 _ := range_touch hR3 (Touch.setCell (F := fun k => k = bx) (p := ⟨bx, 3, none⟩) rfl _) (by omega)
  have hf5 : ∀ j, (v3.setCell ⟨bx, 3, none⟩ (.int .i64 (50 * r3))).frozen? ⟨br, j, none⟩ = false := fun j => by rw [World.frozen?_setCell]; exact hf3 j
  have b0 := hR5 0 _ rfl
  have b1 := hR5 1 _ rfl
  have b2 := hR5 2 _ rfl
  have b3 := hR5 3 _ rfl
  simp only [Nat.zero_add] at b0 b1 b2 b3
  have f0 := hf5 0
  have f1 := hf5 1
  have f2 := hf5 2
  have f3 := hf5 3
  have HF := Lib.hid (set_cells (w := (v3.setCell ⟨bx, 3, none⟩ (.int .i64 (50 * r3)))) (g := br) [.string id, .int .i64 r1, .int .i64 r2, .int .i64 (50 * r3)] 0 (fun j hj => by
    match j, hj with
    | 0, _ => exact ⟨_, b0⟩
    | 1, _ => exact ⟨_, b1⟩
    | 2, _ => exact ⟨_, b2⟩
    | 3, _ => exact ⟨_, b3⟩))
  have hTf := Touch.setsNew (F := fun k => k = g) (w := w) (g := br) (by omega) [.string id, .int .i64 r1, .int .i64 r2, .int .i64 (50 * r3)] 0 (T3.setNew (p := ⟨bx, 3, none⟩) (by show w.heap.size ≤ bx; omega) (.int .i64 (50 * r3)))
  have hSf : SrcW g (m + 6) ((v3.setCell ⟨bx, 3, none⟩ (.int .i64 (50 * r3))).setCells br 0 [.string id, .int .i64 r1, .int .i64 r2, .int .i64 (50 * r3)]) := (h3.touch (F := fun k => k = bx ∨ k = br) ((Touch.setCell (F := fun k => k = bx ∨ k = br) (p := ⟨bx, 3, none⟩) (.inl rfl) _).trans (Touch.setCells (.inr rfl) _ 0)) fun k hk e => by omega).more (by omega)
  clear hR3 hf3 hR5 hf5 hxf
  go_wp2
  change bodyPost _ _ _ _ _ ((v3.setCell ⟨bx, 3, none⟩ (.int .i64 (50 * r3))).setCells br 0 [.string id, .int .i64 r1, .int .i64 r2, .int .i64 (50 * r3)])
  have HF' := HF.out
  generalize ((v3.setCell ⟨bx, 3, none⟩ (.int .i64 (50 * r3))).setCells br 0 [.string id, .int .i64 r1, .int .i64 r2, .int .i64 (50 * r3)]) = Wf at *
  have qf0 := HF' 0 _ rfl
  have qf1 := HF' 1 _ rfl
  have qf2 := HF' 2 _ rfl
  have qf3 := HF' 3 _ rfl
  simp only [Nat.zero_add] at qf0 qf1 qf2 qf3
  exact bodyPost_ret (v := .agg #[.string id, .int .i64 r1, .int .i64 r2, .int .i64 (50 * r3)]) (by simp [results, Tryz.results21, go_sem, qf0, qf1, qf2, qf3]) rfl ⟨⟨id, r1, r2, 50 * r3⟩, ⟨rfl, ⟨by simp only; omega, by simp only; omega⟩, ⟨by simp only; omega, by simp only; omega⟩, ⟨by simp only; omega, by simp only; omega⟩⟩, rfl, hSf, hTf⟩
theorem Tryz.infoGood : (Tryz.prog.info? 27).map (fun i => (i.zero, i.size, i.bytes)) = some (some (.agg #[.string ⟨#[]⟩, .int .i64 0, .int .i64 0, .int .i64 0]), 4, 40) := by kernel_rfl
def goodnames : List ByteArray := [⟨#[98, 114, 105, 100, 103, 101]⟩, ⟨#[104, 97, 105, 114]⟩, ⟨#[112, 101, 103]⟩, ⟨#[112, 111, 115, 116]⟩, ⟨#[114, 111, 115, 105, 110]⟩]
structure GoodList (ns : List ByteArray) (l : List DGood) : Prop where
  sub : (l.map (·.fId)).Sublist ns
  ok : ∀ q ∈ l, GoodDrawn q.fId q
theorem GoodList.nil (ns : List ByteArray) : GoodList ns [] := ⟨List.nil_sublist _, fun q h => by cases h⟩
theorem GoodList.skip {k : Nat} {ns : List ByteArray} {x : ByteArray} {l : List DGood} (h : GoodList (ns.take k) l) (hx : ns[k]? = some x) : GoodList (ns.take (k + 1)) l :=
  ⟨by rw [take_of_get hx]; exact h.sub.trans (List.sublist_append_left _ _), h.ok⟩
theorem GoodList.push {k : Nat} {ns : List ByteArray} {x : ByteArray} {l : List DGood} {q : DGood} (h : GoodList (ns.take k) l) (hx : ns[k]? = some x) (hq : GoodDrawn x q) : GoodList (ns.take (k + 1)) (l ++ [q]) := by
  refine ⟨?_, fun y hy => ?_⟩
  · rw [take_of_get hx, List.map_append, List.map_singleton, hq.name]
    exact List.Sublist.append h.sub (List.Sublist.refl _)
  · rcases List.mem_append.1 hy with h1 | h1
    · exact h.ok y h1
    · rw [List.mem_singleton] at h1
      subst h1
      rw [hq.name]
      exact hq
theorem GoodList.len {ns : List ByteArray} {l : List DGood} (h : GoodList ns l) : l.length ≤ ns.length := by
  have := h.sub.length_le
  rwa [List.length_map] at this
set_option maxRecDepth 100000 in
set_option maxHeartbeats 2000000 in
theorem s_l26Draw (g m : Nat) (w : World) (h : SrcW g m w) (hm : m ≤ 1000) :
    Calls Tryz.prog 20 #[.pointer (some ⟨g, 0, none⟩)] w fun e w' => ∃ (A : Option Addr) (n c : Nat) (l : List DGood), GoodList goodnames l ∧ l.length = n ∧ e = .returned (.slice A n c) ∧ GL goodE 27 w.heap.size w' (.slice A n c) l ∧ Touch (fun k => k = g) w w' := by
  obtain ⟨i0, hi, hz0, hz1, hz2⟩ := info_parts Tryz.infoGood
  have hi1 := Lib.hid hz1
  have hi2 := Lib.hid hz2
  clear hz1 hz2
  have hg := h.lt
  have hN : Rd strE (w.alloc (.cells #[.string ⟨#[98, 114, 105, 100, 103, 101]⟩, .string ⟨#[104, 97, 105, 114]⟩, .string ⟨#[112, 101, 103]⟩, .string ⟨#[112, 111, 115, 116]⟩, .string ⟨#[114, 111, 115, 105, 110]⟩] 9)) (some ⟨w.heap.size, 0, none⟩) 5 goodnames := Rd.lit1 strE rfl rfl rfl
  obtain ⟨W0, hW0⟩ : ∃ W0, w.alloc (.cells #[.string ⟨#[98, 114, 105, 100, 103, 101]⟩, .string ⟨#[104, 97, 105, 114]⟩, .string ⟨#[112, 101, 103]⟩, .string ⟨#[112, 111, 115, 116]⟩, .string ⟨#[114, 111, 115, 105, 110]⟩] 9) = W0 := ⟨_, rfl⟩
  have z0 : W0.heap.size = w.heap.size + 1 := by rw [← hW0]; simp
  have b0 : Below w.heap.size w W0 := hW0 ▸ (Below.refl _ _).alloc (Nat.le_refl _) _
  rw [hW0] at hN
  have hG0 : GL goodE 27 (w.heap.size + 1) (W0.alloc (.cells #[] 27)) (.slice (some ⟨W0.heap.size, 0, none⟩) 0 0) [] := GL.mk0 (by omega)
  have hN1 := hN.alloc (.cells #[] 27)
  have b1 : Below w.heap.size w (W0.alloc (.cells #[] 27)) := b0.alloc (by omega) _
  obtain ⟨W1, hW1⟩ : ∃ W1, W0.alloc (.cells #[] 27) = W1 := ⟨_, rfl⟩
  have z1 : W1.heap.size = W0.heap.size + 1 := by rw [← hW1]; simp
  rw [hW1] at hG0 hN1 b1
  have h1 : SrcW g m W1 := h.below b1
  have T1 : Touch (fun k => k = g) w W1 := Touch.of_below b1
  clear hN b0 b1
  go_enter Tryz.func20, Tryz.ntmps20
  go_wp2_with fail
  try rw [hW0]
  try rw [hW1]
  rw [z0] at hG0
  have HG0 := Lib.hid hG0
  have HN1 := Lib.hid hN1
  clear hW0 hW1 hG0 hN1
  go_loopw [4, 5] (fun v i wr => ∃ (k mm : Nat) (A : Option Addr) (n c : Nat) (l : List DGood), k ≤ 5 ∧ i = .int .i64 k ∧ v = .slice A n c ∧ n ≤ k ∧ mm ≤ m + 8 * k ∧ GL goodE 27 (w.heap.size + 1) wr (.slice A n c) l ∧ Hid (GoodList (goodnames.take k) l) ∧ SrcW g mm wr ∧ Rd strE wr (some ⟨w.heap.size, 0, none⟩) 5 goodnames ∧ Touch (fun k => k = g) w wr) (fun _ i _ => 5 - (intOf i).toNat)
  case atStart => exact ⟨0, m, _, 0, 0, [], by omega, rfl, rfl, by omega, by omega, HG0.out, Lib.hid (GoodList.nil _), h1, HN1.out, T1⟩
  case round =>
    obtain ⟨k, mm, A, n, c, l, hk, rfl, rfl, hn, hmm, hgl, HL, hS, hrd, hT⟩ := hrel
    clear HG0 HN1 T1 h1
    by_cases hlt : k < 5
    · obtain ⟨b, off, x, hA, hx, hc⟩ := hrd.get hlt
      cases hA
      have hx0 := hc 0 (.string x) rfl
      simp only [strE, Nat.mul_one, Nat.add_zero, Nat.zero_add] at hx0
      have HX := Lib.hid hx
      clear hc hx
      go_wp2_with fail
      refine (s_pick g mm 3 wr hS (by omega) (by omega) (by omega)).mono ?_
      rintro e w1 ⟨r, hr, rfl, hS1, ht1⟩
      have hgl1 := hgl.touch ht1 fun k hk e => by have := (hgl.lt k hk).1; omega
      have hrd1 := hrd.touch ht1 fun _ b o p e => by cases e; omega
      replace hx0 := touch_cell ht1 (by simp; omega) hx0
      replace hT := hT.trans ht1
      clear hgl hrd hS ht1
      by_cases hr0 : 0 < r
      · go_wp2_with fail
        refine (s_l26DrawOne g (mm + 2) x w1 hS1 (by omega)).mono ?_
        rintro e w2 ⟨q, hq, rfl, hS2, ht2⟩
        have hgl2 := hgl1.touch ht2 fun k hk e => by have := (hgl1.lt k hk).1; omega
        have hrd2 := hrd1.touch ht2 fun _ b o p e => by cases e; omega
        replace hT := hT.trans ht2
        have HQ := Lib.hid (HL.out.push HX.out hq)
        have hz2 := hT.size
        clear hgl1 hrd1 hS1 ht2 hx0 HL HX hq
        go_wp2_with (at_builtin; refine wpList_pushO goodE rfl (.tmp 17) (.tmp 24) 24 rfl (w.heap.size + 1) 27 i0 _ 40 Tryz.underlying24 hi hz0 hi1.out hi2.out rfl A n c l q rfl (hgl2.alloc _) w2.heap.size rfl (range_new _ _ _) (by omega) (by decide) (by simp; omega) ?_; intro A2 c2 w4 hgl4 ht4 _)
        have hS3 : SrcW g (mm + 8) w4 := ((hS2.below ((Below.refl _ _).alloc (Nat.le_refl _) _)).touch ht4 fun k hk e => by have := (hgl2.lt k e).1; omega).more (by omega)
        have hrd4 := (hrd2.alloc (.cells #[.string q.fId, .int .i64 q.fCount, .int .i64 q.fLeast, .int .i64 q.fPrice] 27)).touch ht4 fun _ b o p e hk => by cases e; have := (hgl2.lt _ hk).1; omega
        have hT4 : Touch (fun k => k = g) w w4 := (hT.allocT _).transNew ht4 fun k hk => by have := (hgl2.lt k hk).1; omega
        clear hgl2 hrd2 hS2 ht4 hT
        go_wp2
        first | (refine ⟨⟨k + 1, mm + 8, A2, n + 1, c2, l ++ [q], by omega, by go_num, rfl, by omega, by omega, hgl4, HQ, hS3, hrd4, hT4⟩, ?_⟩; (simp [intOf]; omega)) | (go_roundw; (case rel => first | exact ⟨k + 1, mm + 8, A2, n + 1, c2, l ++ [q], by omega, by go_num, rfl, by omega, by omega, hgl4, HQ, hS3, hrd4, hT4⟩ | ((try refine ⟨trivial, ?_⟩); (repeat apply Exists.intro); exact ⟨⟨k + 1, mm + 8, A2, n + 1, c2, l ++ [q], by omega, by go_num, rfl, by omega, by omega, hgl4, HQ, hS3, hrd4, hT4⟩, rfl⟩)); (case measure => (simp [intOf]; omega)))
      · obtain rfl : r = 0 := by omega
        have HQ := Lib.hid (HL.out.skip HX.out)
        clear HL HX hx0 hr0
        go_wp2
        first | (refine ⟨⟨k + 1, mm + 2, A, n, c, l, by omega, by go_num, rfl, by omega, by omega, hgl1, HQ, hS1, hrd1, hT⟩, ?_⟩; (simp [intOf]; omega)) | (go_roundw; (case rel => first | exact ⟨k + 1, mm + 2, A, n, c, l, by omega, by go_num, rfl, by omega, by omega, hgl1, HQ, hS1, hrd1, hT⟩ | ((try refine ⟨trivial, ?_⟩); (repeat apply Exists.intro); exact ⟨⟨k + 1, mm + 2, A, n, c, l, by omega, by go_num, rfl, by omega, by omega, hgl1, HQ, hS1, hrd1, hT⟩, rfl⟩)); (case measure => (simp [intOf]; omega)))
    · have HQ : Hid (GoodList goodnames l) := Lib.hid (by have h := HL.out; rw [List.take_of_length_le (by show 5 ≤ k; omega)] at h; exact h)
      have hl := hgl.len
      clear HL hrd hS
      go_wp2
      go_ret
      exact ⟨A, n, c, l, HQ.out, hl, rfl, hgl.mono (by omega), hT⟩

end Go.Proofs.YtfogginmdglagaaGreatDoor

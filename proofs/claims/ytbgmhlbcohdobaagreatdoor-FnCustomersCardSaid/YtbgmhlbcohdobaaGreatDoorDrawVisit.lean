/- Drawn ones: Visit. Printed by a program of mine. -/
import Derived.Test.YtbgmhlbcohdobaaGreatDoorRows
import Derived.Test.YtbgmhlbcohdobaaGreatDoorSrc
import Derived.Test.YtbgmhlbcohdobaaGreatDoorRVisit
import Derived.Test.YtbgmhlbcohdobaaGreatDoorCustI
import Derived.Test.YtbgmhlbcohdobaaGreatDoorTwo
import Derived.Test.YtbgmhlbcohdobaaGreatDoorSrcMore
import Derived.Test.YtbgmhlbcohdobaaGreatDoorSrcText
namespace Go.Proofs.YtbgmhlbcohdobaaGreatDoor
set_option linter.unusedVariables false
set_option linter.unusedSimpArgs false
set_option linter.unusedSectionVars false
open Go.RowKit

def visitwhos : List ByteArray := [⟨#[97, 100, 97]⟩, ⟨#[98, 101, 110]⟩, ⟨#[99, 108, 101, 111]⟩, ⟨#[100, 111, 118]⟩]
structure VisitDrawn (id : Int) (q : DVisit) : Prop where
  day : q.fDay = id
  bWho : q.fWho ∈ visitwhos
  bKind : 1 ≤ q.fKind ∧ q.fKind ≤ 4
  bAmount : 0 ≤ q.fAmount ∧ q.fAmount ≤ 5900
set_option maxRecDepth 100000 in
set_option maxHeartbeats 2000000 in
theorem s_l22DrawOne (g m : Nat) (id : Int) (w : World) (h : SrcW g m w) (hm : m ≤ 1000000) :
    Calls Tryz.prog 35 #[.pointer (some ⟨g, 0, none⟩), .int .i64 id] w fun e w' => ∃ q : DVisit, VisitDrawn id q ∧ e = .returned (.agg #[.int .i64 q.fDay, .string q.fWho, .int .i64 q.fKind, .int .i64 q.fAmount]) ∧ SrcW g (m + 6) w' ∧ Touch (fun k => k = g) w w' := by
  have hg := h.lt
  have hR := range_new w #[.int .i64 0, .string ⟨#[]⟩, .int .i64 0, .int .i64 0] 35
  have hfr := fun j => new_free w #[.int .i64 0, .string ⟨#[]⟩, .int .i64 0, .int .i64 0] 35 j
  obtain ⟨W0, hW0⟩ : ∃ W0, w.alloc (.cells #[.int .i64 0, .string ⟨#[]⟩, .int .i64 0, .int .i64 0] 35) = W0 := ⟨_, rfl⟩
  have T0 : Touch (fun k => k = g) w W0 := hW0 ▸ Touch.alloc _ _
  have h0 : SrcW g m W0 := h.below (hW0 ▸ (Below.refl _ _).alloc (Nat.le_refl _) _)
  have z0 : W0.heap.size = w.heap.size + 1 := by rw [← hW0]; simp
  rw [hW0] at hR hfr
  have Z0 := Lib.hid z0
  clear z0
  go_enter Tryz.func35, Tryz.ntmps35
  go_wp2_with fail
  try rw [hW0]
  clear hW0
  have hN1 : Rd strE (W0.alloc (.cells #[.string ⟨#[97, 100, 97]⟩, .string ⟨#[98, 101, 110]⟩, .string ⟨#[99, 108, 101, 111]⟩, .string ⟨#[100, 111, 118]⟩] 9)) (some ⟨W0.heap.size, 0, none⟩) 4 visitwhos := Rd.lit1 strE rfl rfl rfl
  have hT1 : SrcW g (m) (W0.alloc (.cells #[.string ⟨#[97, 100, 97]⟩, .string ⟨#[98, 101, 110]⟩, .string ⟨#[99, 108, 101, 111]⟩, .string ⟨#[100, 111, 118]⟩] 9)) := h0.below ((Below.refl _ _).alloc (Nat.le_refl _) _)
  have tN1 : Touch (fun k => k = g) W0 (W0.alloc (.cells #[.string ⟨#[97, 100, 97]⟩, .string ⟨#[98, 101, 110]⟩, .string ⟨#[99, 108, 101, 111]⟩, .string ⟨#[100, 111, 118]⟩] 9)) := Touch.alloc _ _
  have hgw1 : g < W0.heap.size := h0.lt
  obtain ⟨N1, hN1e⟩ : ∃ W, W0.alloc (.cells #[.string ⟨#[97, 100, 97]⟩, .string ⟨#[98, 101, 110]⟩, .string ⟨#[99, 108, 101, 111]⟩, .string ⟨#[100, 111, 118]⟩] 9) = W := ⟨_, rfl⟩
  rw [hN1e] at hN1 hT1 tN1
  try rw [hN1e]
  clear hN1e
  refine (s_text g (m) _ 4 4 visitwhos N1 hT1 (by omega) hN1 (by omega) (by omega) (fun b o p e => by cases e; omega)).mono ?_
  rintro e w1 ⟨r1, l1, rfl, h1, u1⟩
  have t1 := tN1.trans u1
  clear hN1 hT1 tN1 u1 hgw1
  go_wp2_with fail
  refine (s_pick g (m + 2) 4 w1 h1 (by omega) (by omega) (by omega)).mono ?_
  rintro e w2 ⟨r2, l2, rfl, h2, t2⟩
  go_wp2_with fail
  have z0 := Z0.out
  have T2 := T0.trans (t1.trans t2)
  have hS := T2.size
  have z2 : w.heap.size < w2.heap.size := by have := (t1.trans t2).size; omega
  have hR2 : w2.rangeAt w.heap.size 0 _ := range_touch hR (t1.trans t2) (by omega)
  have hf2 : ∀ j, w2.frozen? ⟨w.heap.size, j, none⟩ = false := fun j => free_touch (hfr j) (by simp; omega) (by simp; omega) (t1.trans t2)
  clear hR hfr T0 t1 t2 h0 h1
  have hX := range_new w2 #[.int .i64 id, .string r1, .int .i64 (1 + r2), .int .i64 0] 35
  have hxf := fun j => new_free w2 #[.int .i64 id, .string r1, .int .i64 (1 + r2), .int .i64 0] 35 j
  obtain ⟨W2, hW2⟩ : ∃ W, w2.alloc (.cells #[.int .i64 id, .string r1, .int .i64 (1 + r2), .int .i64 0] 35) = W := ⟨_, rfl⟩
  have tA : Touch (fun k => k = g) w2 W2 := hW2 ▸ Touch.alloc _ _
  have hB : SrcW g (m + 2 + 2) W2 := h2.below (hW2 ▸ (Below.refl _ _).alloc (Nat.le_refl _) _)
  have zA : W2.heap.size = w2.heap.size + 1 := by rw [← hW2]; simp
  rw [hW2] at hX hxf
  rw [hW2]
  clear hW2
  have T3 := T2.trans tA
  have hR3 : W2.rangeAt w.heap.size 0 _ := range_touch hR2 tA (by omega)
  have hf3 : ∀ j, W2.frozen? ⟨w.heap.size, j, none⟩ = false := fun j => free_touch (hf2 j) (by simp; omega) (by simp; omega) tA
  have y0 := hX 0 _ rfl
  have y1 := hX 1 _ rfl
  have y2 := hX 2 _ rfl
  have y3 := hX 3 _ rfl
  simp only [Nat.zero_add] at y0 y1 y2 y3
  obtain ⟨bx, hbx⟩ : ∃ b, w2.heap.size = b := ⟨_, rfl⟩
  obtain ⟨br, hbr⟩ : ∃ b, w.heap.size = b := ⟨_, rfl⟩
  have zX : bx < W2.heap.size := by omega
  rw [hbx] at y0 y1 y2 y3 z2 hxf ⊢
  rw [hbr] at hR3 hf3 z2 hg ⊢
  clear hX hR2 hf2 T2 tA h2 zA
  refine (s_pick g (m + 2 + 2) 60 W2 hB (by omega) (by omega) (by omega)).mono ?_
  rintro e v3 ⟨r3, l3, rfl, h3, t3⟩
  replace y0 := touch_cell t3 (by simp; omega) y0
  replace y1 := touch_cell t3 (by simp; omega) y1
  replace y2 := touch_cell t3 (by simp; omega) y2
  replace y3 := touch_cell t3 (by simp; omega) y3
  replace hxf : ∀ j, v3.frozen? ⟨bx, j, none⟩ = false := fun j => free_touch (hxf j) (by simp; omega) (by simp; omega) t3
  replace hR3 := range_touch hR3 t3 (by omega)
  replace hf3 : ∀ j, v3.frozen? ⟨br, j, none⟩ = false := fun j => free_touch (hf3 j) (by simp; omega) (by simp; omega) t3
  replace T3 := T3.trans t3
  replace zX : bx < v3.heap.size := Nat.lt_of_lt_of_le zX t3.size
  clear t3 hB
  have xf := hxf 3
  have q0 : (v3.setCell ⟨bx, 3, none⟩ (.int .i64 (100 * r3))).cell? ⟨bx, 0, none⟩ = some (.int .i64 id) := (World.cell?_setCell_other _ _ _ _ (by simp)).trans y0
  have q1 : (v3.setCell ⟨bx, 3, none⟩ (.int .i64 (100 * r3))).cell? ⟨bx, 1, none⟩ = some (.string r1) := (World.cell?_setCell_other _ _ _ _ (by simp)).trans y1
  have q2 : (v3.setCell ⟨bx, 3, none⟩ (.int .i64 (100 * r3))).cell? ⟨bx, 2, none⟩ = some (.int .i64 (1 + r2)) := (World.cell?_setCell_other _ _ _ _ (by simp)).trans y2
  have q3 : (v3.setCell ⟨bx, 3, none⟩ (.int .i64 (100 * r3))).cell? ⟨bx, 3, none⟩ = some (.int .i64 (100 * r3)) := World.cell?_setCell_same _ _ _ y3
  have hR5 : (v3.setCell ⟨bx, 3, none⟩ (.int .i64 (100 * r3))).rangeAt br 0 _ := range_touch hR3 (Touch.setCell (F := fun k => k = bx) (p := ⟨bx, 3, none⟩) rfl _) (by omega)
  have hf5 : ∀ j, (v3.setCell ⟨bx, 3, none⟩ (.int .i64 (100 * r3))).frozen? ⟨br, j, none⟩ = false := fun j => by rw [World.frozen?_setCell]; exact hf3 j
  have b0 := hR5 0 _ rfl
  have b1 := hR5 1 _ rfl
  have b2 := hR5 2 _ rfl
  have b3 := hR5 3 _ rfl
  simp only [Nat.zero_add] at b0 b1 b2 b3
  have f0 := hf5 0
  have f1 := hf5 1
  have f2 := hf5 2
  have f3 := hf5 3
  have HF := Lib.hid (set_cells (w := (v3.setCell ⟨bx, 3, none⟩ (.int .i64 (100 * r3)))) (g := br) [.int .i64 id, .string r1, .int .i64 (1 + r2), .int .i64 (100 * r3)] 0 (fun j hj => by
    match j, hj with
    | 0, _ => exact ⟨_, b0⟩
    | 1, _ => exact ⟨_, b1⟩
    | 2, _ => exact ⟨_, b2⟩
    | 3, _ => exact ⟨_, b3⟩))
  have hTf := Touch.setsNew (F := fun k => k = g) (w := w) (g := br) (by omega) [.int .i64 id, .string r1, .int .i64 (1 + r2), .int .i64 (100 * r3)] 0 (T3.setNew (p := ⟨bx, 3, none⟩) (by show w.heap.size ≤ bx; omega) (.int .i64 (100 * r3)))
  have hSf : SrcW g (m + 6) ((v3.setCell ⟨bx, 3, none⟩ (.int .i64 (100 * r3))).setCells br 0 [.int .i64 id, .string r1, .int .i64 (1 + r2), .int .i64 (100 * r3)]) := (h3.touch (F := fun k => k = bx ∨ k = br) ((Touch.setCell (F := fun k => k = bx ∨ k = br) (p := ⟨bx, 3, none⟩) (.inl rfl) _).trans (Touch.setCells (.inr rfl) _ 0)) fun k hk e => by omega).more (by omega)
  clear hR3 hf3 hR5 hf5 hxf
  go_wp2
  change bodyPost _ _ _ _ _ ((v3.setCell ⟨bx, 3, none⟩ (.int .i64 (100 * r3))).setCells br 0 [.int .i64 id, .string r1, .int .i64 (1 + r2), .int .i64 (100 * r3)])
  have HF' := HF.out
  generalize ((v3.setCell ⟨bx, 3, none⟩ (.int .i64 (100 * r3))).setCells br 0 [.int .i64 id, .string r1, .int .i64 (1 + r2), .int .i64 (100 * r3)]) = Wf at *
  have qf0 := HF' 0 _ rfl
  have qf1 := HF' 1 _ rfl
  have qf2 := HF' 2 _ rfl
  have qf3 := HF' 3 _ rfl
  simp only [Nat.zero_add] at qf0 qf1 qf2 qf3
  exact bodyPost_ret (v := .agg #[.int .i64 id, .string r1, .int .i64 (1 + r2), .int .i64 (100 * r3)]) (by simp [results, Tryz.results35, go_sem, qf0, qf1, qf2, qf3]) rfl ⟨⟨id, r1, 1 + r2, 100 * r3⟩, ⟨rfl, l1, ⟨by simp only; omega, by simp only; omega⟩, ⟨by simp only; omega, by simp only; omega⟩⟩, rfl, hSf, hTf⟩
theorem Tryz.infoVisit : (Tryz.prog.info? 35).map (fun i => (i.zero, i.size, i.bytes)) = some (some (.agg #[.int .i64 0, .string ⟨#[]⟩, .int .i64 0, .int .i64 0]), 4, 40) := by kernel_rfl
/-- Drawn visits, the days rising from 0 to at most m. -/
structure VisitList (m : Int) (l : List DVisit) : Prop where
  ok : ∀ q ∈ l, VisitDrawn q.fDay q ∧ 0 ≤ q.fDay ∧ q.fDay ≤ m
  asc : l.Pairwise fun a b => a.fDay ≤ b.fDay
theorem VisitList.nil (m : Int) : VisitList m [] := ⟨fun q h => (by cases h), List.Pairwise.nil⟩
theorem VisitList.push {m m' : Int} {l : List DVisit} {q : DVisit} (h : VisitList m l) (hq : VisitDrawn m q) (h0 : 0 ≤ m) (hm : m ≤ m') : VisitList m' (l ++ [q]) := by
  refine ⟨fun y hy => ?_, List.pairwise_append.2 ⟨h.asc, by simp, fun a ha b hb => ?_⟩⟩
  · rcases List.mem_append.1 hy with h1 | h1
    · have := h.ok y h1
      exact ⟨this.1, this.2.1, by omega⟩
    · rw [List.mem_singleton] at h1
      subst h1
      have e := hq.day
      exact ⟨by rw [e]; exact hq, by omega, by omega⟩
  · rw [List.mem_singleton] at hb
    subst hb
    rw [hq.day]
    exact (h.ok a ha).2.2
set_option maxRecDepth 100000 in
set_option maxHeartbeats 2000000 in
theorem s_l22Draw (g m : Nat) (w : World) (h : SrcW g m w) (hm : m ≤ 1000) :
    Calls Tryz.prog 18 #[.pointer (some ⟨g, 0, none⟩)] w fun e w' => ∃ (A : Option Addr) (n c : Nat) (l : List DVisit), VisitList 330 l ∧ l.length = n ∧ n ≤ 9 ∧ e = .returned (.slice A n c) ∧ GL visitE 35 w.heap.size w' (.slice A n c) l ∧ Touch (fun k => k = g) w w' := by
  obtain ⟨i0, hi, hz0, hz1, hz2⟩ := info_parts Tryz.infoVisit
  have hi1 := Lib.hid hz1
  have hi2 := Lib.hid hz2
  clear hz1 hz2
  have hg := h.lt
  have hG0 : GL visitE 35 w.heap.size (w.alloc (.cells #[] 35)) (.slice (some ⟨w.heap.size, 0, none⟩) 0 0) [] := GL.mk0 (Nat.le_refl _)
  have b1 : Below w.heap.size w (w.alloc (.cells #[] 35)) := (Below.refl _ _).alloc (Nat.le_refl _) _
  obtain ⟨W1, hW1⟩ : ∃ W1, w.alloc (.cells #[] 35) = W1 := ⟨_, rfl⟩
  rw [hW1] at hG0 b1
  have h1 : SrcW g m W1 := h.below b1
  have T1 : Touch (fun k => k = g) w W1 := Touch.of_below b1
  clear b1
  go_enter Tryz.func18, Tryz.ntmps18
  go_wp2_with fail
  try rw [hW1]
  clear hW1
  refine (s_pick g m 60 W1 h1 (by omega) (by omega) (by omega)).mono ?_
  rintro e w2 ⟨r0, l0, rfl, h2, t2⟩
  have hG2 := hG0.touch t2 fun k hk e => by have := (hG0.lt k hk).1; omega
  have T2 := T1.trans t2
  clear hG0 h1 T1 t2
  go_wp2_with fail
  refine (s_pick g (m + 2) 10 w2 h2 (by omega) (by omega) (by omega)).mono ?_
  rintro e w3 ⟨r1, l1, rfl, h3, t3⟩
  have hG3 := hG2.touch t3 fun k hk e => by have := (hG2.lt k hk).1; omega
  have T3 := T2.trans t3
  have HG3 := Lib.hid hG3
  clear hG2 h2 T2 t3 hG3
  go_wp2_with fail
  go_loopw [3, 4, 5] (fun v dy kk wr => ∃ (k mm : Nat) (A : Option Addr) (n c : Nat) (l : List DVisit) (d : Int), k ≤ 9 ∧ kk = .int .i64 k ∧ v = .slice A n c ∧ dy = .int .i64 d ∧ 0 ≤ d ∧ d + 30 * k ≤ 330 ∧ n + k ≤ 9 ∧ mm + 10 * k ≤ m + 104 ∧ GL visitE 35 w.heap.size wr (.slice A n c) l ∧ Hid (VisitList d l) ∧ SrcW g mm wr ∧ Touch (fun k => k = g) w wr) (fun _ _ i _ => (intOf i).toNat)
  case atStart => exact ⟨r1, m + 2 + 2, _, 0, 0, [], (r0 : Int), by omega, rfl, rfl, rfl, by omega, by omega, by omega, by omega, HG3.out, Lib.hid (VisitList.nil _), h3, T3⟩
  case round =>
    obtain ⟨k, mm, A, n, c, l, d, hk, rfl, rfl, rfl, hd0, hd1, hn, hmm, hgl, HL, hS, hT⟩ := hrel
    clear HG3 T3 h3
    by_cases hlt : 0 < k
    · have hlt2 : (0 : Int) < (k : Int) := by omega
      go_wp2_with fail
      refine (s_l22DrawOne g mm d wr hS (by omega)).mono ?_
      rintro e w4 ⟨q, hq, rfl, hS2, ht2⟩
      have hgl2 := hgl.touch ht2 fun k hk e => by have := (hgl.lt k hk).1; omega
      replace hT := hT.trans ht2
      have HQ := Lib.hid hq
      have hz2 := hT.size
      clear hgl hS ht2 hq
      go_wp2_with (at_builtin; refine wpList_pushO visitE rfl _ _ 24 rfl w.heap.size 35 i0 _ 40 Tryz.underlying24 hi hz0 hi1.out hi2.out rfl A n c l q rfl (hgl2.alloc _) w4.heap.size rfl (range_new _ _ _) (by omega) (by decide) (by simp; omega) ?_; intro A2 c2 w5 hgl5 ht5 _)
      have hS3 : SrcW g (mm + 6) w5 := (hS2.below ((Below.refl _ _).alloc (Nat.le_refl _) _)).touch ht5 fun k hk e => by have := (hgl2.lt k e).1; omega
      have hT5 : Touch (fun k => k = g) w w5 := (hT.allocT _).transNew ht5 fun k hk => by have := (hgl2.lt k hk).1; omega
      clear hgl2 hS2 ht5 hT
      go_wp2_with fail
      refine (s_pick g (mm + 6) 30 w5 hS3 (by omega) (by omega) (by omega)).mono ?_
      rintro e w6 ⟨r, hr, rfl, hS6, ht6⟩
      have hgl6 := hgl5.touch ht6 fun k hk e => by have := (hgl5.lt k hk).1; omega
      have hT6 := hT5.trans ht6
      have HN : Hid (VisitList (d + r) (l ++ [q])) := Lib.hid (HL.out.push HQ.out hd0 (by omega))
      clear hgl5 hS3 ht6 hT5 HL HQ
      have e1 : (k : Int) - 1 = ((k - 1 : Nat) : Int) := by omega
      go_wp2
      first | (refine ⟨⟨k - 1, mm + 6 + 2, A2, n + 1, c2, l ++ [q], d + r, by omega, by first | rfl | rw [e1], rfl, rfl, by omega, by omega, by omega, by omega, hgl6, HN, hS6, hT6⟩, ?_⟩; (simp [intOf]; omega)) | (go_roundw; (case rel => first | exact ⟨k - 1, mm + 6 + 2, A2, n + 1, c2, l ++ [q], d + r, by omega, by first | rfl | rw [e1], rfl, rfl, by omega, by omega, by omega, by omega, hgl6, HN, hS6, hT6⟩ | ((try refine ⟨trivial, ?_⟩); (repeat apply Exists.intro); exact ⟨⟨k - 1, mm + 6 + 2, A2, n + 1, c2, l ++ [q], d + r, by omega, by first | rfl | rw [e1], rfl, rfl, by omega, by omega, by omega, by omega, hgl6, HN, hS6, hT6⟩, rfl⟩)); (case measure => (simp [intOf]; omega)))
    · obtain rfl : k = 0 := by omega
      have HQ : Hid (VisitList 330 l) := Lib.hid ⟨fun q hq => by have := HL.out.ok q hq; exact ⟨this.1, this.2.1, by omega⟩, HL.out.asc⟩
      have hl := hgl.len
      clear HL hS
      go_wp2
      go_ret
      exact ⟨A, n, c, l, HQ.out, hl, by omega, rfl, hgl, hT⟩
theorem s_R8Visits (A : Option Addr) (n c : Nat) (l : List UInt8) (w : World) (hr : Rd byteE w A n l) (hn : n ≤ 1048576) :
    Calls Tryz.prog 5 #[.slice A n c] w fun e w' => ∃ (A' : Option Addr) (n' c' : Nat) (l' : List DVisit), VisitList 330 l' ∧ l'.length = n' ∧ n' ≤ 9 ∧ e = .returned (.slice A' n' c') ∧ GL visitE 35 w.heap.size w' (.slice A' n' c') l' ∧ Below w.heap.size w w' := by
  go_enter Tryz.func5, Tryz.ntmps5
  go_wp2_with fail
  refine (s_l00From A n c l w hr hn).mono ?_
  rintro e w1 ⟨rfl, hS, hz, hb⟩
  go_wp2_with fail
  refine (s_l22Draw _ 0 w1 hS (by omega)).mono ?_
  rintro e w2 ⟨A', n', c', l', hq, hl, h9, rfl, hg, ht⟩
  have hB := Below.touch hb ht (fun k hk => by omega) hb.size
  go_wp2
  go_ret
  exact ⟨A', n', c', l', hq, hl, h9, rfl, hg.mono hb.size, hB⟩
end Go.Proofs.YtbgmhlbcohdobaaGreatDoor

/- The walk of the law on varnish. Printed by a program of mine. -/
import Derived.Test.YtbdjhecbingcjaaGreatDoorRows
import Derived.Test.YtbdjhecbingcjaaGreatDoorVarnJ
import Derived.Test.YtbdjhecbingcjaaGreatDoorDrawCoat
import Derived.Test.YtbdjhecbingcjaaGreatDoorLawB
import Derived.Test.YtbdjhecbingcjaaGreatDoorLoopU
import Derived.Deep.DeepCutAuto
namespace Go.Proofs.YtbdjhecbingcjaaGreatDoor
set_option linter.unusedVariables false
set_option linter.unusedSimpArgs false
set_option linter.unusedSectionVars false
open Go.RowKit

/-- where the ways through a statement meet: the frame is F of some slots, of which R holds -/
inductive CutFr (F : (Nat → Value) → List Value) (R : (Nat → Value) → World → Prop) (a : Act) (w : World) : Prop where
  | intro (U : Nat → Value) (hR : R U w) (ha : a = ⟨(F U).toArray, []⟩)
theorem CutFr.of {F : (Nat → Value) → List Value} {R : (Nat → Value) → World → Prop} {l : List Value} {w : World} (h0 : l = F (slotL l)) (hR : R (slotL l) w) : CutFr F R ⟨l.toArray, []⟩ w :=
  ⟨slotL l, hR, by rw [← h0]⟩
theorem wp_cut_U {P : Program} {s : Code} {K : Act → World → Prop} {Q' : Exit → Act → World → Prop} {a : Act} {w : World} (F : (Nat → Value) → List Value) (R : (Nat → Value) → World → Prop)
    (first : ∀ (J K' : Act → World → Prop), (∀ a' w', CutFr F R a' w' → J a' w') → (∀ a' w', Met J a' w' → K' a' w') → s.wp P (Exit.then K' Q') a w)
    (rest : ∀ U w', R U w' → K ⟨(F U).toArray, []⟩ w') : s.wp P (Exit.then K Q') a w :=
  wp_cut (CutFr F R) (fun a' w' ⟨U, hR, ha⟩ => ha ▸ rest U w' hR) first
theorem run_oneR {P : Program} (W : World) (t e : TypeId) (ht : P.underlying t = some (.slice e)) (hz : ∀ w, (Go.sizeOf e).run P w = .ok 1 w) (b off n c k : Nat) (hkn : k < n) (hnc : n ≤ c) :
    (Instr.slice t (.slice (some ⟨b, off, none⟩) n c) (some (.int .i64 (k : Int))) (some (.int .i64 ((k : Int) + 1))) none).run P W = .ok (.slice (some ⟨b, off + k, none⟩) 1 (c - k)) W := by
  have ht' : P.underlying t = some (.slice (P.elem t)) := by simp [Program.elem, ht]
  have he : P.elem t = e := by simp [Program.elem, ht]
  rw [run_slice_lh W t _ _ _ ht' .i64 .i64 _ _ (by omega) (by omega) (by omega), he, hz]
  have e1 : ((k : Int) + 1).toNat = k + 1 := by omega
  have e2 : ¬ c = k := by omega
  simp [Result.andThen, sliced, e1, e2, Addr.add]
theorem Rd.one {w : World} {b off n k : Nat} {l : List Int} {v : Int} (h : Rd intE w (some ⟨b, off, none⟩) n l) (hv : l[k]? = some v) : Rd intE w (some ⟨b, off + k, none⟩) 1 [v] := by
  have hk : k < n := by rw [← h.1]; exact (List.getElem?_eq_some_iff.1 hv).1
  have h1 := (h.drop k hk).take 1 (by omega)
  rw [show (l.drop k).take 1 = [v] from by rw [drop_of_get hv]; rfl] at h1
  rw [show off + k * intE.k = off + k from by show off + k * 1 = _; omega] at h1
  exact h1
theorem Rd.oneNew {w : World} {et : TypeId} {x : Int} : Rd intE (w.alloc (.cells #[.int .i64 x] et)) (some ⟨w.heap.size, 0, none⟩) 1 [x] := by
  refine ⟨rfl, fun _ => ⟨w.heap.size, 0, rfl, fun k y hy => ?_⟩⟩
  match k, hy with
  | 0, hy =>
    cases hy
    have h := range_new w #[.int .i64 x] et
    simpa [intE] using h
  | k + 1, hy => simp at hy
theorem Ord5.push {l : List DCoat} {o : List Int} {k : Nat} {x : DCoat} (h : Ord5 l o) (hx : l[k]? = some x) (hl : o.length ≤ 9) : Ord5 l (o ++ [(k : Int)]) := ⟨by rw [List.length_append]; show o.length + 1 ≤ 10; omega, fun i hi => by
  rcases List.mem_append.1 hi with h1 | h1
  · exact h.2 i h1
  · rw [List.mem_singleton] at h1
    exact ⟨k, x, h1, hx⟩⟩
/-- bounds of the first coats' shares of a colour -/
def Bnd (l : List DCoat) (k i : Nat) (lo hi : Int) : Prop := (∀ (a : Nat) (y : DCoat) (c : Int), a < i → l[a]? = some y → y.fColour[k]? = some c → lo ≤ c ∧ c ≤ hi)
theorem bnd_zero (l : List DCoat) (k : Nat) : Bnd l k 0 255 0 := fun a y c h => absurd h (Nat.not_lt_zero _)
theorem bnd_next {l : List DCoat} {k i : Nat} {lo hi : Int} {x : DCoat} {q : Int} (h : Bnd l k i lo hi) (hx : l[i]? = some x) (hq : x.fColour[k]? = some q) (_ : 0 ≤ q ∧ q ≤ 255) : Bnd l k (i + 1) (min lo q) (max hi q) := fun a y c ha hy hc => by
  rcases Nat.lt_or_ge a i with h1 | h1
  · have := h a y c h1 hy hc
    omega
  · obtain rfl : a = i := by omega
    rw [hx] at hy
    cases hy
    rw [hq] at hc
    cases hc
    omega
theorem bnd_mix {l : List DCoat} {k n : Nat} {lo hi : Int} {p : List Int} (h : Bnd l k n lo hi) (hp : ∀ q ∈ p, 0 ≤ q ∧ q ≤ 5) (he : p.length = l.length) (hs : 0 < p.sum) (hk : k < 3) (hl : OkCs l) (hn : l.length = n) : lo ≤ dR (partV p l k l.length) p.sum ∧ dR (partV p l k l.length) p.sum ≤ hi := by
  have h1 := partV_between (p := p) (l := l) (j := k) (low := lo) (high := hi) (fun q hq => (hp q hq).1) he (fun x hx => by
    obtain ⟨c, h1, h2⟩ := (hl.ok x hx).col.get hk
    obtain ⟨a, ha⟩ := List.mem_iff_getElem?.1 hx
    exact ⟨c, h1, h a x c (by rw [← hn]; exact (List.getElem?_eq_some_iff.1 ha).1) ha h1⟩) l.length (Nat.le_refl _)
  rw [← he, List.take_length] at h1
  rw [← he]
  exact ⟨dR_low hs h1.1, dR_high hs h1.2⟩
set_option maxRecDepth 100000 in
set_option maxHeartbeats 40000000 in
theorem w_Varnish (A0 : Option Addr) (n0 c0 : Nat) (l0 : List UInt8) (A1 : Option Addr) (n1 c1 : Nat) (l1 : List UInt8) (w : World) (hr0 : Rd byteE w A0 n0 l0) (hn0 : n0 ≤ maxLen) (hg0 : ∀ x ∈ l0, (0 : Int) ≤ (x.toNat : Int)) (hr1 : Rd byteE w A1 n1 l1) (hn1 : n1 ≤ maxLen) (hg1 : ∀ x ∈ l1, (0 : Int) ≤ (x.toNat : Int)) (hL : LibW w) :
    Calls Tryz.prog 3 #[.slice A0 n0 c0, .slice A1 n1 c1] w (RetB true w) := by
  obtain ⟨i0, hi, hz0, hz1, hz2⟩ := info_parts Tryz.info_v64
  have HZ := Lib.hid (And.intro hz0 (And.intro hz1 hz2))
  clear hz0 hz1 hz2
  clear hg0 hg1
  go_enter Tryz.func3, Tryz.ntmps3
  go_wp2_with fail
  refine (l_r8Long A0 A1 n0 c0 n1 c1 _ hn0 hn1).mono ?_
  rintro e w' ⟨rfl, rfl⟩
  rcases hlong : (decide (1048576 < n0) || decide (1048576 < n1)) with _ | _
  rotate_left
  · clear hlong
    go_wp2
    go_ret
    exact ⟨rfl, Below.refl _ _⟩
  have hs0 : n0 ≤ 1048576 ∧ n1 ≤ 1048576 := by
    rw [Bool.or_eq_false_iff, decide_eq_false_iff_not, decide_eq_false_iff_not] at hlong
    omega
  clear hlong
  go_wp2_with fail
  refine (s_R8Coats A0 n0 c0 l0 w hr0 hs0.1).mono ?_
  rintro e w1 ⟨A, n, c, l, hok, hn4, rfl, hrl, b1⟩
  have HO := Lib.hid hok
  clear hok
  go_wp2_with fail
  refine (s_R8Colour A1 n1 c1 l1 w1 (hr1.below b1) hs0.2).mono ?_
  rintro e w2 ⟨BG, g, hgc, rfl, hrg, b2⟩
  have b12 := b1.trans (b2.mono b1.size)
  have HG := Lib.hid hgc
  clear hgc
  go_wp2_with fail
  refine (s_R8Colour A0 n0 c0 l0 w2 (hr0.below b12) hs0.1).mono ?_
  rintro e w3 ⟨BT, t, htc, rfl, hrt, b3⟩
  have HT := Lib.hid htc
  have HRL : Hid (RdCoat w3 A n l) := Lib.hid ((hrl.below b2).below b3)
  have HRG : Hid (Rd intE w3 BG 3 g) := Lib.hid (hrg.below b3)
  have HRT : Hid (Rd intE w3 BT 3 t) := Lib.hid hrt
  have HB3 : Hid (Below w.heap.size w w3) := Lib.hid (b12.trans (b3.mono b12.size))
  have HRM : Hid (Rd byteE w3 A1 n1 l1) := Lib.hid (hr1.below HB3.out)
  clear htc hrl hrg hrt b1 b2 b3 b12 hr0 hr1
  have HG0 : Hid (GL intE 2 w3.heap.size (w3.alloc (.cells #[] 2)) (.slice (some ⟨w3.heap.size, 0, none⟩) 0 0) []) := Lib.hid (GL.mk0 (Nat.le_refl _))
  have hbA : Below w3.heap.size w3 (w3.alloc (.cells #[] 2)) := (Below.refl _ _).alloc (Nat.le_refl _) _
  as_aux_lemma =>
    go_upto_if 58 with fail
    refine wp_cut_U (fun U_ => [U_ 0, .slice A1 n1 c1, U_ 2, U_ 3, U_ 4, .slice A n c, .slice BG 3 3, .slice BT 3 3, U_ 8, U_ 9, U_ 10, U_ 11, U_ 12, U_ 13, U_ 14, U_ 15, U_ 16, U_ 17, U_ 18, U_ 19, U_ 20, U_ 21, U_ 22, U_ 23, U_ 24, U_ 25, U_ 26, U_ 27, U_ 28, U_ 29, U_ 30, U_ 31, U_ 32, U_ 33, U_ 34, U_ 35, U_ 36, U_ 37, U_ 38, U_ 39, U_ 40, U_ 41, U_ 42, U_ 43, U_ 44, U_ 45, U_ 46, U_ 47, U_ 48, U_ 49, U_ 50, U_ 51, U_ 52, U_ 53, U_ 54, U_ 55, U_ 56, U_ 57, U_ 58, U_ 59, U_ 60, U_ 61, U_ 62, U_ 63, U_ 64, U_ 65, U_ 66, U_ 67, U_ 68, U_ 69, U_ 70, U_ 71, U_ 72, U_ 73, U_ 74, U_ 75, U_ 76, U_ 77, U_ 78, U_ 79, U_ 80, U_ 81, U_ 82, U_ 83, U_ 84, U_ 85, U_ 86, U_ 87, U_ 88, U_ 89, U_ 90, U_ 91, U_ 92, U_ 93, U_ 94, U_ 95, U_ 96, U_ 97, U_ 98, U_ 99, U_ 100, U_ 101, U_ 102, U_ 103, U_ 104, U_ 105, U_ 106, U_ 107, U_ 108, U_ 109, U_ 110, U_ 111, U_ 112, U_ 113, U_ 114, U_ 115, U_ 116, U_ 117, U_ 118, U_ 119, U_ 120, U_ 121, U_ 122, U_ 123, U_ 124, U_ 125, U_ 126, U_ 127, U_ 128, U_ 129, U_ 130, U_ 131, U_ 132, U_ 133, U_ 134, U_ 135, U_ 136, U_ 137, U_ 138, U_ 139, U_ 140, U_ 141, U_ 142, U_ 143, U_ 144, U_ 145, U_ 146, U_ 147, U_ 148, U_ 149, U_ 150, U_ 151, U_ 152, U_ 153, U_ 154, U_ 155, U_ 156, U_ 157, U_ 158, U_ 159, U_ 160, U_ 161, U_ 162, U_ 163, U_ 164, U_ 165, U_ 166, U_ 167, U_ 168, U_ 169, U_ 170, U_ 171, U_ 172, U_ 173, U_ 174, U_ 175, U_ 176, U_ 177, U_ 178, U_ 179, U_ 180, U_ 181, U_ 182, U_ 183, U_ 184, U_ 185, U_ 186, U_ 187, U_ 188, U_ 189, U_ 190, U_ 191, U_ 192, U_ 193, U_ 194, U_ 195, U_ 196, U_ 197, U_ 198, U_ 199, U_ 200, U_ 201, U_ 202, U_ 203, U_ 204, U_ 205, U_ 206, U_ 207, U_ 208, U_ 209, U_ 210, U_ 211, U_ 212, U_ 213, U_ 214, U_ 215, U_ 216, U_ 217, U_ 218, U_ 219, U_ 220, U_ 221, U_ 222, U_ 223, U_ 224, U_ 225, U_ 226, U_ 227, U_ 228, U_ 229, U_ 230, U_ 231, U_ 232, U_ 233, U_ 234, U_ 235, U_ 236, U_ 237, U_ 238, U_ 239, U_ 240, U_ 241, U_ 242, U_ 243, U_ 244, U_ 245, U_ 246, U_ 247, U_ 248, U_ 249, U_ 250, U_ 251, U_ 252, U_ 253, U_ 254, U_ 255, U_ 256, U_ 257, U_ 258, U_ 259, U_ 260, U_ 261, U_ 262, U_ 263, U_ 264, U_ 265, U_ 266, U_ 267, U_ 268, U_ 269, U_ 270, U_ 271, U_ 272, U_ 273, U_ 274, U_ 275, U_ 276, U_ 277, U_ 278, U_ 279, U_ 280, U_ 281, U_ 282, U_ 283, U_ 284, U_ 285, U_ 286, U_ 287, U_ 288, U_ 289, U_ 290, U_ 291, U_ 292, U_ 293, U_ 294, U_ 295, U_ 296, U_ 297, U_ 298, U_ 299, U_ 300, U_ 301, U_ 302, U_ 303, U_ 304, U_ 305, U_ 306, U_ 307, U_ 308, U_ 309, U_ 310, U_ 311, U_ 312, U_ 313, U_ 314, U_ 315, U_ 316, U_ 317, U_ 318, U_ 319, U_ 320, U_ 321, U_ 322, U_ 323, U_ 324, U_ 325, U_ 326, U_ 327, U_ 328, U_ 329, U_ 330, U_ 331, U_ 332, U_ 333, U_ 334, U_ 335, U_ 336, U_ 337, U_ 338, U_ 339, U_ 340, U_ 341, U_ 342, U_ 343, U_ 344, U_ 345, U_ 346, U_ 347, U_ 348, U_ 349, U_ 350, U_ 351, U_ 352, U_ 353, U_ 354, U_ 355, U_ 356, U_ 357, U_ 358, U_ 359, U_ 360, U_ 361, U_ 362, U_ 363, U_ 364, U_ 365, U_ 366, U_ 367, U_ 368, U_ 369, U_ 370, U_ 371, U_ 372, U_ 373, U_ 374, U_ 375, U_ 376, U_ 377, U_ 378, U_ 379, U_ 380, U_ 381, U_ 382, U_ 383, U_ 384, U_ 385, U_ 386, U_ 387, U_ 388, U_ 389, U_ 390, U_ 391, U_ 392, U_ 393, U_ 394, U_ 395, U_ 396, U_ 397, U_ 398, U_ 399, U_ 400, U_ 401, U_ 402, U_ 403, U_ 404, U_ 405, U_ 406, U_ 407, U_ 408, U_ 409, U_ 410, U_ 411, U_ 412, U_ 413, U_ 414, U_ 415, U_ 416, U_ 417, U_ 418, U_ 419, U_ 420, U_ 421, U_ 422, U_ 423, U_ 424, U_ 425, U_ 426, U_ 427, U_ 428, U_ 429, U_ 430, U_ 431, U_ 432, U_ 433, U_ 434, U_ 435, U_ 436, U_ 437, U_ 438, U_ 439, U_ 440, U_ 441, U_ 442, U_ 443, U_ 444, U_ 445, U_ 446, U_ 447, U_ 448, U_ 449, U_ 450, U_ 451, U_ 452, U_ 453, U_ 454, U_ 455, U_ 456, U_ 457, U_ 458, U_ 459, U_ 460, U_ 461, U_ 462, U_ 463, U_ 464, U_ 465, U_ 466, U_ 467, U_ 468, U_ 469, U_ 470, U_ 471, U_ 472, U_ 473, U_ 474, U_ 475, U_ 476, U_ 477, U_ 478, U_ 479]) (fun U_ wx => ∃ (AO : Option Addr) (m cO : Nat) (ord : List Int), U_ 8 = .slice AO m cO ∧ Hid (GL intE 2 w3.heap.size wx (.slice AO m cO) ord) ∧ Hid (Ord5 l ord) ∧ Below w3.heap.size w3 wx) ?_ ?_
    · intro J_ K_ hJ_ hK_
      by_cases hn : 0 < n
      · go_wp2_with fail
        refine wp_loop_U (fun U_ => [U_ 0, .slice A1 n1 c1, U_ 2, U_ 3, U_ 4, .slice A n c, .slice BG 3 3, .slice BT 3 3, U_ 8, U_ 9, U_ 10, U_ 11, U_ 12, U_ 13, U_ 14, U_ 15, U_ 16, U_ 17, U_ 18, U_ 19, U_ 20, U_ 21, U_ 22, U_ 23, U_ 24, U_ 25, U_ 26, U_ 27, U_ 28, U_ 29, U_ 30, U_ 31, U_ 32, U_ 33, U_ 34, U_ 35, U_ 36, U_ 37, U_ 38, U_ 39, U_ 40, U_ 41, U_ 42, U_ 43, U_ 44, U_ 45, U_ 46, U_ 47, U_ 48, U_ 49, U_ 50, U_ 51, U_ 52, U_ 53, U_ 54, U_ 55, U_ 56, U_ 57, U_ 58, U_ 59, U_ 60, U_ 61, U_ 62, U_ 63, U_ 64, U_ 65, U_ 66, U_ 67, U_ 68, U_ 69, U_ 70, U_ 71, U_ 72, U_ 73, U_ 74, U_ 75, U_ 76, U_ 77, U_ 78, U_ 79, U_ 80, U_ 81, U_ 82, U_ 83, U_ 84, U_ 85, U_ 86, U_ 87, U_ 88, U_ 89, U_ 90, U_ 91, U_ 92, U_ 93, U_ 94, U_ 95, U_ 96, U_ 97, U_ 98, U_ 99, U_ 100, U_ 101, U_ 102, U_ 103, U_ 104, U_ 105, U_ 106, U_ 107, U_ 108, U_ 109, U_ 110, U_ 111, U_ 112, U_ 113, U_ 114, U_ 115, U_ 116, U_ 117, U_ 118, U_ 119, U_ 120, U_ 121, U_ 122, U_ 123, U_ 124, U_ 125, U_ 126, U_ 127, U_ 128, U_ 129, U_ 130, U_ 131, U_ 132, U_ 133, U_ 134, U_ 135, U_ 136, U_ 137, U_ 138, U_ 139, U_ 140, U_ 141, U_ 142, U_ 143, U_ 144, U_ 145, U_ 146, U_ 147, U_ 148, U_ 149, U_ 150, U_ 151, U_ 152, U_ 153, U_ 154, U_ 155, U_ 156, U_ 157, U_ 158, U_ 159, U_ 160, U_ 161, U_ 162, U_ 163, U_ 164, U_ 165, U_ 166, U_ 167, U_ 168, U_ 169, U_ 170, U_ 171, U_ 172, U_ 173, U_ 174, U_ 175, U_ 176, U_ 177, U_ 178, U_ 179, U_ 180, U_ 181, U_ 182, U_ 183, U_ 184, U_ 185, U_ 186, U_ 187, U_ 188, U_ 189, U_ 190, U_ 191, U_ 192, U_ 193, U_ 194, U_ 195, U_ 196, U_ 197, U_ 198, U_ 199, U_ 200, U_ 201, U_ 202, U_ 203, U_ 204, U_ 205, U_ 206, U_ 207, U_ 208, U_ 209, U_ 210, U_ 211, U_ 212, U_ 213, U_ 214, U_ 215, U_ 216, U_ 217, U_ 218, U_ 219, U_ 220, U_ 221, U_ 222, U_ 223, U_ 224, U_ 225, U_ 226, U_ 227, U_ 228, U_ 229, U_ 230, U_ 231, U_ 232, U_ 233, U_ 234, U_ 235, U_ 236, U_ 237, U_ 238, U_ 239, U_ 240, U_ 241, U_ 242, U_ 243, U_ 244, U_ 245, U_ 246, U_ 247, U_ 248, U_ 249, U_ 250, U_ 251, U_ 252, U_ 253, U_ 254, U_ 255, U_ 256, U_ 257, U_ 258, U_ 259, U_ 260, U_ 261, U_ 262, U_ 263, U_ 264, U_ 265, U_ 266, U_ 267, U_ 268, U_ 269, U_ 270, U_ 271, U_ 272, U_ 273, U_ 274, U_ 275, U_ 276, U_ 277, U_ 278, U_ 279, U_ 280, U_ 281, U_ 282, U_ 283, U_ 284, U_ 285, U_ 286, U_ 287, U_ 288, U_ 289, U_ 290, U_ 291, U_ 292, U_ 293, U_ 294, U_ 295, U_ 296, U_ 297, U_ 298, U_ 299, U_ 300, U_ 301, U_ 302, U_ 303, U_ 304, U_ 305, U_ 306, U_ 307, U_ 308, U_ 309, U_ 310, U_ 311, U_ 312, U_ 313, U_ 314, U_ 315, U_ 316, U_ 317, U_ 318, U_ 319, U_ 320, U_ 321, U_ 322, U_ 323, U_ 324, U_ 325, U_ 326, U_ 327, U_ 328, U_ 329, U_ 330, U_ 331, U_ 332, U_ 333, U_ 334, U_ 335, U_ 336, U_ 337, U_ 338, U_ 339, U_ 340, U_ 341, U_ 342, U_ 343, U_ 344, U_ 345, U_ 346, U_ 347, U_ 348, U_ 349, U_ 350, U_ 351, U_ 352, U_ 353, U_ 354, U_ 355, U_ 356, U_ 357, U_ 358, U_ 359, U_ 360, U_ 361, U_ 362, U_ 363, U_ 364, U_ 365, U_ 366, U_ 367, U_ 368, U_ 369, U_ 370, U_ 371, U_ 372, U_ 373, U_ 374, U_ 375, U_ 376, U_ 377, U_ 378, U_ 379, U_ 380, U_ 381, U_ 382, U_ 383, U_ 384, U_ 385, U_ 386, U_ 387, U_ 388, U_ 389, U_ 390, U_ 391, U_ 392, U_ 393, U_ 394, U_ 395, U_ 396, U_ 397, U_ 398, U_ 399, U_ 400, U_ 401, U_ 402, U_ 403, U_ 404, U_ 405, U_ 406, U_ 407, U_ 408, U_ 409, U_ 410, U_ 411, U_ 412, U_ 413, U_ 414, U_ 415, U_ 416, U_ 417, U_ 418, U_ 419, U_ 420, U_ 421, U_ 422, U_ 423, U_ 424, U_ 425, U_ 426, U_ 427, U_ 428, U_ 429, U_ 430, U_ 431, U_ 432, U_ 433, U_ 434, U_ 435, U_ 436, U_ 437, U_ 438, U_ 439, U_ 440, U_ 441, U_ 442, U_ 443, U_ 444, U_ 445, U_ 446, U_ 447, U_ 448, U_ 449, U_ 450, U_ 451, U_ 452, U_ 453, U_ 454, U_ 455, U_ 456, U_ 457, U_ 458, U_ 459, U_ 460, U_ 461, U_ 462, U_ 463, U_ 464, U_ 465, U_ 466, U_ 467, U_ 468, U_ 469, U_ 470, U_ 471, U_ 472, U_ 473, U_ 474, U_ 475, U_ 476, U_ 477, U_ 478, U_ 479]) (fun U_ wr => ∃ (k : Nat) (AO : Option Addr) (cO : Nat) (ord : List Int), k ≤ 5 ∧ U_ 9 = .int .i64 k ∧ U_ 8 = .slice AO k cO ∧ Hid (GL intE 2 w3.heap.size wr (.slice AO k cO) ord) ∧ Hid (Ord5 l ord) ∧ Below w3.heap.size w3 wr) (fun U_ => 5 - (intOf (U_ 9)).toNat) (by kernel_rfl) ⟨0, _, 0, [], by omega, rfl, rfl, HG0, Lib.hid ⟨Nat.zero_le _, fun i h => by cases h⟩, hbA⟩ ?_
        intro U_ wr mma_ hrel hma_
        dsimp only
        as_aux_lemma =>
          · skip
            obtain ⟨k, AO, cO, ord, hk, e9_, e8_, HGL, HOR, hb⟩ := hrel
            have hka_ : 5 - (intOf (U_ 9)).toNat = mma_ := hma_.out
            rw [e9_] at hka_
            have HMa_ : Hid (5 - k = mma_) := Lib.hid hka_
            clear hma_ hka_
            rw [e9_, e8_]
            clear e9_ e8_
            clear HG0 hbA
            go_wp2_with fail
            refine (l_r8At A1 n1 c1 l1 40 6 wr (HRM.out.below hb) hn1 (by omega) (by omega) (by omega)).mono ?_
            rintro e w5 ⟨r, hr6, -, rfl, rfl⟩
            by_cases hlt : k < r
            · have HL1 := Lib.hid HGL.out.len
              have hgl := HGL.out
              have hsb := hb.size
              clear HGL
              go_wp2_with fail
              refine (l_r8At A1 n1 c1 l1 (41 + k) n _ (HRM.out.below hb) hn1 (by omega) (by omega) (by omega)).mono ?_
              rintro e w5 ⟨p, hp, -, rfl, rfl⟩
              obtain ⟨x, hx⟩ : ∃ x, l[p]? = some x := ⟨_, List.getElem?_eq_getElem (by have := HRL.out.len; omega)⟩
              have HO2 := Lib.hid (HOR.out.push hx (by have := HL1.out; omega))
              clear hx
              go_wp2_with (at_builtin; refine wpList_pushO intE rfl _ _ 26 rfl w3.heap.size 2 i0 _ 8 Tryz.underlying26 hi HZ.out.1 HZ.out.2.1 HZ.out.2.2 rfl AO k cO ord (p : Int) rfl (hgl.alloc _) wr.heap.size rfl (range_new _ _ _) (by omega) (by decide) (Nat.le_trans hsb (by simp)) ?_; intro B2 c2 w6 hgl2 ht2 hn2)
              have hb2 := Below.touch (hb.alloc hsb (.cells #[.int .i64 (p : Int)] 2)) ht2 (fun k hk => (hgl.lt k hk).1) (Nat.le_trans hsb (by simp))
              have HG2 := Lib.hid hgl2
              clear hgl hgl2 ht2 hn2
              go_wp2
              exact LoopFr.of (by kernel_rfl) ⟨k + 1, B2, c2, ord ++ [(p : Int)], by omega, rfl, rfl, HG2, HO2, hb2⟩ (by have h := HMa_.out; show 5 - (k + 1) < mma_; omega)
            · go_wp2
              exact Met.intro (hJ_ _ _ (CutFr.of (by kernel_rfl) ⟨AO, k, cO, ord, rfl, HGL, HOR, hb⟩))
      · obtain rfl : n = 0 := by omega
        go_wp2
        exact Met.intro (hJ_ _ _ (CutFr.of (by kernel_rfl) ⟨_, 0, 0, [], rfl, HG0, Lib.hid ⟨Nat.zero_le _, fun i h => by cases h⟩, hbA⟩))
    · intro U_ wc hcut
      dsimp only
      obtain ⟨AO, m, cO, ord, e8_, HGO, HOR, hb⟩ := hcut
      rw [e8_]
      clear e8_ HG0 hbA
      as_aux_lemma =>
        go_wp2_with fail
        refine (i_ColourAfter_yes A n c l AO m cO ord BG 3 3 g wc (HRL.out.below hb) HGO.out.rd (HRG.out.below hb) HO.out HOR.out HG.out).mono ?_
        rintro e w5 ⟨BA, qA, rfl, hra, b5⟩
        have hb5 := hb.trans (b5.mono hb.size)
        have hgo5 := HGO.out.below b5
        go_wp2_with fail
        refine (i_DryingDays_yes A n c l AO m cO ord w5 (HRL.out.below hb5) hgo5.rd HO.out HOR.out).mono ?_
        rintro e w6 ⟨rfl, b6⟩
        have hb6 := hb5.trans (b6.mono hb5.size)
        obtain ⟨DD, hDD⟩ : ∃ D, daysL l ord = D := ⟨_, rfl⟩
        rw [hDD]
        have HDD := Lib.hid hDD
        clear hDD
        go_wp2_with fail
        refine (i_ColourGap_yes BG 3 3 BT 3 3 g t w6 (HRG.out.below hb6) (HRT.out.below hb6) HG.out HT.out).mono ?_
        rintro e w7 ⟨rfl, b7⟩
        have hb7 := hb6.trans (b7.mono hb6.size)
        go_wp2_with fail
        refine (i_ColourGap_yes BT 3 3 BG 3 3 t g w7 (HRT.out.below hb7) (HRG.out.below hb7) HT.out HG.out).mono ?_
        rw [gapL_comm t g]
        rintro e w8 ⟨rfl, b8⟩
        have hb8 := hb7.trans (b8.mono hb7.size)
        have HRA8 := Lib.hid (((hra.below b6).below b7).below b8)
        have HGO8 := Lib.hid (((hgo5.below b6).below b7).below b8)
        obtain ⟨GP, hGP⟩ : ∃ G, gapL g t = G := ⟨_, rfl⟩
        rw [hGP]
        have hgg : (GP != GP) = false := by simp
        clear hGP hra hgo5 b5 b6 b7 b8 hb hb5 hb6 hb7 HGO
        as_aux_lemma =>
          go_wp2_with fail
          refine (i_ValidCoats_yes A n c l w8 (HRL.out.below hb8) HO.out).mono ?_
          rintro e w9 ⟨rfl, b9⟩
          have hb9 := hb8.trans (b9.mono hb8.size)
          have hG0 : GL intE 2 w9.heap.size (w9.alloc (.cells #[] 2)) (.slice (some ⟨w9.heap.size, 0, none⟩) 0 0) [] := GL.mk0 (Nat.le_refl _)
          have hbN : Below w9.heap.size w9 (w9.alloc (.cells #[] 2)) := (Below.refl _ _).alloc (Nat.le_refl _) _
          have hrg := (HRG.out.below hb9).below hbN
          have hsN := hbN.size
          go_wp2_with (at_builtin; refine wpList_pushL intE rfl _ _ 26 rfl w9.heap.size 2 i0 _ 8 Tryz.underlying26 hi HZ.out.1 HZ.out.2.1 HZ.out.2.2 rfl (.slice (some ⟨w9.heap.size, 0, none⟩) 0 0) [] g rfl hG0 BG 3 3 rfl hrg.1 (Rd.noneLen hrg) (Rd.src hrg) 3 (by simp) g (by simp) (by omega) (by decide) w9 hbN hsN ?_; intro BN qN w10 hgl10 hcap10 hb10 hs10)
          have HB10 := Lib.hid (hb9.trans (hb10.mono hb9.size))
          have b910 := b9.trans (hb10.mono b9.size)
          have HGO10 := Lib.hid (HGO8.out.below b910)
          have HRA := Lib.hid (HRA8.out.below b910)
          have HLO := Lib.hid HGO10.out.len
          have HN0 : Hid (Rd intE w10 BN 3 (afterL l (ord.take 0) g)) := Lib.hid hgl10.rd
          clear hgl10 hcap10 hb10 hs10 b910 hG0 hbN hrg hsN hb9 b9 hb8 hgg HRA8 HGO8
          refine wp_loop_U (fun U_ => [U_ 0, .slice A1 n1 c1, U_ 2, U_ 3, U_ 4, .slice A n c, .slice BG 3 3, .slice BT 3 3, .slice AO m cO, U_ 9, .slice BA 3 qA, U_ 11, .int .i64 DD, U_ 13, U_ 14, U_ 15, U_ 16, U_ 17, U_ 18, U_ 19, U_ 20, U_ 21, U_ 22, U_ 23, U_ 24, U_ 25, U_ 26, U_ 27, U_ 28, U_ 29, U_ 30, U_ 31, U_ 32, U_ 33, U_ 34, U_ 35, U_ 36, U_ 37, U_ 38, U_ 39, U_ 40, U_ 41, U_ 42, U_ 43, U_ 44, U_ 45, U_ 46, U_ 47, U_ 48, U_ 49, U_ 50, U_ 51, U_ 52, U_ 53, U_ 54, U_ 55, U_ 56, U_ 57, U_ 58, U_ 59, U_ 60, U_ 61, U_ 62, U_ 63, U_ 64, U_ 65, U_ 66, U_ 67, U_ 68, U_ 69, U_ 70, U_ 71, U_ 72, U_ 73, U_ 74, U_ 75, U_ 76, U_ 77, U_ 78, U_ 79, U_ 80, U_ 81, U_ 82, U_ 83, U_ 84, U_ 85, U_ 86, U_ 87, U_ 88, U_ 89, U_ 90, U_ 91, U_ 92, U_ 93, U_ 94, U_ 95, U_ 96, U_ 97, U_ 98, U_ 99, U_ 100, U_ 101, U_ 102, U_ 103, U_ 104, U_ 105, U_ 106, U_ 107, U_ 108, U_ 109, U_ 110, U_ 111, U_ 112, U_ 113, U_ 114, U_ 115, U_ 116, U_ 117, U_ 118, U_ 119, U_ 120, U_ 121, U_ 122, U_ 123, U_ 124, U_ 125, U_ 126, U_ 127, U_ 128, U_ 129, U_ 130, U_ 131, U_ 132, U_ 133, U_ 134, U_ 135, U_ 136, U_ 137, U_ 138, U_ 139, U_ 140, U_ 141, U_ 142, U_ 143, U_ 144, U_ 145, U_ 146, U_ 147, U_ 148, U_ 149, U_ 150, U_ 151, U_ 152, U_ 153, U_ 154, U_ 155, U_ 156, U_ 157, U_ 158, U_ 159, U_ 160, U_ 161, U_ 162, U_ 163, U_ 164, U_ 165, U_ 166, U_ 167, U_ 168, U_ 169, U_ 170, U_ 171, U_ 172, U_ 173, U_ 174, U_ 175, U_ 176, U_ 177, U_ 178, U_ 179, U_ 180, U_ 181, U_ 182, U_ 183, U_ 184, U_ 185, U_ 186, U_ 187, U_ 188, U_ 189, U_ 190, U_ 191, U_ 192, U_ 193, U_ 194, U_ 195, U_ 196, U_ 197, U_ 198, U_ 199, U_ 200, U_ 201, U_ 202, U_ 203, U_ 204, U_ 205, U_ 206, U_ 207, U_ 208, U_ 209, U_ 210, U_ 211, U_ 212, U_ 213, U_ 214, U_ 215, U_ 216, U_ 217, U_ 218, U_ 219, U_ 220, U_ 221, U_ 222, U_ 223, U_ 224, U_ 225, U_ 226, U_ 227, U_ 228, U_ 229, U_ 230, U_ 231, U_ 232, U_ 233, U_ 234, U_ 235, U_ 236, U_ 237, U_ 238, U_ 239, U_ 240, U_ 241, U_ 242, U_ 243, U_ 244, U_ 245, U_ 246, U_ 247, U_ 248, U_ 249, U_ 250, U_ 251, U_ 252, U_ 253, U_ 254, U_ 255, U_ 256, U_ 257, U_ 258, U_ 259, U_ 260, U_ 261, U_ 262, U_ 263, U_ 264, U_ 265, U_ 266, U_ 267, U_ 268, U_ 269, U_ 270, U_ 271, U_ 272, U_ 273, U_ 274, U_ 275, U_ 276, U_ 277, U_ 278, U_ 279, U_ 280, U_ 281, U_ 282, U_ 283, U_ 284, U_ 285, U_ 286, U_ 287, U_ 288, U_ 289, U_ 290, U_ 291, U_ 292, U_ 293, U_ 294, U_ 295, U_ 296, U_ 297, U_ 298, U_ 299, U_ 300, U_ 301, U_ 302, U_ 303, U_ 304, U_ 305, U_ 306, U_ 307, U_ 308, U_ 309, U_ 310, U_ 311, U_ 312, U_ 313, U_ 314, U_ 315, U_ 316, U_ 317, U_ 318, U_ 319, U_ 320, U_ 321, U_ 322, U_ 323, U_ 324, U_ 325, U_ 326, U_ 327, U_ 328, U_ 329, U_ 330, U_ 331, U_ 332, U_ 333, U_ 334, U_ 335, U_ 336, U_ 337, U_ 338, U_ 339, U_ 340, U_ 341, U_ 342, U_ 343, U_ 344, U_ 345, U_ 346, U_ 347, U_ 348, U_ 349, U_ 350, U_ 351, U_ 352, U_ 353, U_ 354, U_ 355, U_ 356, U_ 357, U_ 358, U_ 359, U_ 360, U_ 361, U_ 362, U_ 363, U_ 364, U_ 365, U_ 366, U_ 367, U_ 368, U_ 369, U_ 370, U_ 371, U_ 372, U_ 373, U_ 374, U_ 375, U_ 376, U_ 377, U_ 378, U_ 379, U_ 380, U_ 381, U_ 382, U_ 383, U_ 384, U_ 385, U_ 386, U_ 387, U_ 388, U_ 389, U_ 390, U_ 391, U_ 392, U_ 393, U_ 394, U_ 395, U_ 396, U_ 397, U_ 398, U_ 399, U_ 400, U_ 401, U_ 402, U_ 403, U_ 404, U_ 405, U_ 406, U_ 407, U_ 408, U_ 409, U_ 410, U_ 411, U_ 412, U_ 413, U_ 414, U_ 415, U_ 416, U_ 417, U_ 418, U_ 419, U_ 420, U_ 421, U_ 422, U_ 423, U_ 424, U_ 425, U_ 426, U_ 427, U_ 428, U_ 429, U_ 430, U_ 431, U_ 432, U_ 433, U_ 434, U_ 435, U_ 436, U_ 437, U_ 438, U_ 439, U_ 440, U_ 441, U_ 442, U_ 443, U_ 444, U_ 445, U_ 446, U_ 447, U_ 448, U_ 449, U_ 450, U_ 451, U_ 452, U_ 453, U_ 454, U_ 455, U_ 456, U_ 457, U_ 458, U_ 459, U_ 460, U_ 461, U_ 462, U_ 463, U_ 464, U_ 465, U_ 466, U_ 467, U_ 468, U_ 469, U_ 470, U_ 471, U_ 472, U_ 473, U_ 474, U_ 475, U_ 476, U_ 477, U_ 478, U_ 479]) (fun U_ wr => ∃ (k : Nat) (BN : Option Addr) (qN : Nat), k ≤ m ∧ U_ 20 = .int .i64 k ∧ U_ 18 = .slice BN 3 qN ∧ U_ 19 = .int .i64 (daysL l (ord.take k)) ∧ Hid (Rd intE wr BN 3 (afterL l (ord.take k) g)) ∧ Below w10.heap.size w10 wr) (fun U_ => m - (intOf (U_ 20)).toNat) (by kernel_rfl) ⟨0, BN, qN, Nat.zero_le _, rfl, rfl, rfl, HN0, Below.refl _ _⟩ ?_
          intro U_ wr mmb_ hrel hmb_
          dsimp only
          as_aux_lemma =>
            · skip
              obtain ⟨k, BN, qN, hk, e20_, e18_, e19_, HN, hb⟩ := hrel
              have hkb_ : m - (intOf (U_ 20)).toNat = mmb_ := hmb_.out
              rw [e20_] at hkb_
              have HMb_ : Hid (m - k = mmb_) := Lib.hid hkb_
              clear hmb_ hkb_
              rw [e20_, e18_, e19_]
              clear e20_ e18_ e19_
              clear HN0
              by_cases hlt : k < m
              · skip
                as_aux_lemma =>
                  have hm10 : m ≤ 10 := by have h1 := HOR.out.1; have h2 := HLO.out; omega
                  have hb3r := HB10.out.trans (hb.mono HB10.out.size)
                  have hcap := HGO10.out.cap.1
                  obtain ⟨b, off, v, rfl, hv, hcs⟩ := (HGO10.out.rd.below hb).get hlt
                  have hrO := HGO10.out.rd.below hb
                  have h0 := hcs 0 _ rfl
                  simp only [intE, Nat.mul_one, Nat.add_zero] at h0
                  obtain ⟨p, x, rfl, hx⟩ := HOR.out.2 v (List.mem_of_getElem? hv)
                  have hp : p < n := by rw [← HRL.out.len]; exact (List.getElem?_eq_some_iff.1 hx).1
                  obtain ⟨bl, ol, x', A', n', c', rfl, hx', hcx, hru⟩ := (HRL.out.below hb3r).get hp
                  rw [hx] at hx'
                  cases hx'
                  have hx0 := hcx 0 _ rfl
                  have hx1 := hcx 1 _ rfl
                  have hx2 := hcx 2 _ rfl
                  have hx3 := hcx 3 _ rfl
                  simp only [Nat.add_zero] at hx0 hx1 hx2 hx3
                  have HOX := Lib.hid (HO.out.ok x (List.mem_of_getElem? hx))
                  obtain rfl : n' = 3 := by rw [← hru.1]; exact HOX.out.col.1
                  have HXX := Lib.hid hx
                  have HNX : Hid (afterL l (ord.take (k + 1)) g = overL x (afterL l (ord.take k) g)) := Lib.hid (by rw [afterL_take hv, coatAt_get hx])
                  have HDX : Hid (daysL l (ord.take (k + 1)) = daysL l (ord.take k) + x.fDays) := Lib.hid (by rw [daysL_take hv, coatAt_get hx])
                  have hD := daysL_range HO.out (HOR.out.take k)
                  have hD2 : (ord.take k).length ≤ 10 := by rw [List.length_take]; have := HOR.out.1; omega
                  have hdx := HOX.out.days
                  have HC := Lib.hid (afterL_col HO.out HG.out (HOR.out.take k))
                  have HR1 := Lib.hid (Rd.one hrO hv)
                  obtain ⟨SM, hSM⟩ : ∃ S, daysL l (ord.take k) = S := ⟨_, rfl⟩
                  obtain ⟨NW, hNW⟩ : ∃ S, afterL l (ord.take k) g = S := ⟨_, rfl⟩
                  rw [hSM] at HDX hD ⊢
                  rw [hNW] at HNX HC HN
                  have hsize : ∀ w, (Go.sizeOf 2).run Tryz.prog w = .ok 1 w := fun w => by simp [Go.sizeOf, typeInfo, hi, HZ.out.2.1]
                  have hs1 := fun W => run_oneR (P := Tryz.prog) W 26 2 Tryz.underlying26 hsize b off m cO k hlt hcap
                  have R := range_new wr #[.string x.fId, .int .i64 x.fDays, .int .i64 x.fCover, .slice A' 3 c'] 36
                  have ba : Below wr.heap.size wr (wr.alloc (.cells #[.string x.fId, .int .i64 x.fDays, .int .i64 x.fCover, .slice A' 3 c'] 36)) := (Below.refl _ _).alloc (Nat.le_refl _) _
                  obtain ⟨W1, hW1⟩ : ∃ W, wr.alloc (.cells #[.string x.fId, .int .i64 x.fDays, .int .i64 x.fCover, .slice A' 3 c'] 36) = W := ⟨_, rfl⟩
                  rw [hW1] at R ba
                  obtain ⟨bx, hbx⟩ : ∃ b, wr.heap.size = b := ⟨_, rfl⟩
                  rw [hbx] at R
                  have u0 := R 0 _ rfl
                  have u1 := R 1 _ rfl
                  have u2 := R 2 _ rfl
                  have u3 := R 3 _ rfl
                  simp only [Nat.zero_add] at u0 u1 u2 u3
                  have HRU1 := Lib.hid (hru.below ba)
                  have HR1b := Lib.hid (HR1.out.below ba)
                  have HN1 := Lib.hid (HN.out.below ba)
                  have hbW := hb.trans (ba.mono hb.size)
                  have hb3W := hb3r.trans (ba.mono hb3r.size)
                  have k0 := cell_later ba h0
                  clear R hv hx hcs hcx hru hrO hSM hNW HR1 HN ba hb hsize
                  go_upto_region 24 with fail
                  try rw [hW1]
                  try rw [hbx]
                  clear hW1 h0 hx0 hx1 hx2 hx3 hbx
                  as_aux_lemma =>
                    go_wp2_with fail
                    refine (i_ColourAfter_yes (some ⟨bl, ol, none⟩) n c l (some ⟨b, off + k, none⟩) 1 (cO - k) [(p : Int)] BN 3 qN NW W1 (HRL.out.below hb3W) HR1b.out HN1.out HO.out (Ord5.one HXX.out) HC.out).mono ?_
                    rintro e w11 ⟨BX, qX, rfl, hrx, b11⟩
                    rw [afterL_one, coatAt_get HXX.out] at hrx
                    have HRX := Lib.hid hrx
                    have HNW := Lib.hid (HN1.out.below b11)
                    have HRU := Lib.hid (HRU1.out.below b11)
                    have HU := Lib.hid (And.intro (cell_later b11 u0) (And.intro (cell_later b11 u1) (And.intro (cell_later b11 u2) (cell_later b11 u3))))
                    have HB11 := Lib.hid (hbW.trans (b11.mono hbW.size))
                    clear hrx HN1 HRU1 u0 u1 u2 u3 b11 hbW hb3W hb3r HR1b k0 hs1
                    as_aux_lemma =>
                      go_wp2_with fail
                      refine wp_loop_U (fun U_ => [U_ 0, .slice A1 n1 c1, U_ 2, U_ 3, U_ 4, .slice (some ⟨bl, ol, none⟩) n c, .slice BG 3 3, .slice BT 3 3, .slice (some ⟨b, off, none⟩) m cO, U_ 9, .slice BA 3 qA, U_ 11, .int .i64 DD, U_ 13, U_ 14, U_ 15, U_ 16, U_ 17, .slice BN 3 qN, .int .i64 SM, .int .i64 k, .pointer (some ⟨bx, 0, none⟩), .slice BX 3 qX, U_ 23, U_ 24, U_ 25, U_ 26, U_ 27, U_ 28, U_ 29, U_ 30, U_ 31, U_ 32, U_ 33, U_ 34, U_ 35, U_ 36, U_ 37, U_ 38, U_ 39, U_ 40, U_ 41, U_ 42, U_ 43, U_ 44, U_ 45, U_ 46, U_ 47, U_ 48, U_ 49, U_ 50, U_ 51, U_ 52, U_ 53, U_ 54, U_ 55, U_ 56, U_ 57, U_ 58, U_ 59, U_ 60, U_ 61, U_ 62, U_ 63, U_ 64, U_ 65, U_ 66, U_ 67, U_ 68, U_ 69, U_ 70, U_ 71, U_ 72, U_ 73, U_ 74, U_ 75, U_ 76, U_ 77, U_ 78, U_ 79, U_ 80, U_ 81, U_ 82, U_ 83, U_ 84, U_ 85, U_ 86, U_ 87, U_ 88, U_ 89, U_ 90, U_ 91, U_ 92, U_ 93, U_ 94, U_ 95, U_ 96, U_ 97, U_ 98, U_ 99, U_ 100, U_ 101, U_ 102, U_ 103, U_ 104, U_ 105, U_ 106, U_ 107, U_ 108, U_ 109, U_ 110, U_ 111, U_ 112, U_ 113, U_ 114, U_ 115, U_ 116, U_ 117, U_ 118, U_ 119, U_ 120, U_ 121, U_ 122, U_ 123, U_ 124, U_ 125, U_ 126, U_ 127, U_ 128, U_ 129, U_ 130, U_ 131, U_ 132, U_ 133, U_ 134, U_ 135, U_ 136, U_ 137, U_ 138, U_ 139, U_ 140, U_ 141, U_ 142, U_ 143, U_ 144, U_ 145, U_ 146, U_ 147, U_ 148, U_ 149, U_ 150, U_ 151, U_ 152, U_ 153, U_ 154, U_ 155, U_ 156, U_ 157, U_ 158, U_ 159, U_ 160, U_ 161, U_ 162, U_ 163, U_ 164, U_ 165, U_ 166, U_ 167, U_ 168, U_ 169, U_ 170, U_ 171, U_ 172, U_ 173, U_ 174, U_ 175, U_ 176, U_ 177, U_ 178, U_ 179, U_ 180, U_ 181, U_ 182, U_ 183, U_ 184, U_ 185, U_ 186, U_ 187, U_ 188, U_ 189, U_ 190, U_ 191, U_ 192, U_ 193, U_ 194, U_ 195, U_ 196, U_ 197, U_ 198, U_ 199, U_ 200, U_ 201, U_ 202, U_ 203, U_ 204, U_ 205, U_ 206, U_ 207, U_ 208, U_ 209, U_ 210, U_ 211, U_ 212, U_ 213, U_ 214, U_ 215, U_ 216, U_ 217, U_ 218, U_ 219, U_ 220, U_ 221, U_ 222, U_ 223, U_ 224, U_ 225, U_ 226, U_ 227, U_ 228, U_ 229, U_ 230, U_ 231, U_ 232, U_ 233, U_ 234, U_ 235, U_ 236, U_ 237, U_ 238, U_ 239, U_ 240, U_ 241, U_ 242, U_ 243, U_ 244, U_ 245, U_ 246, U_ 247, U_ 248, U_ 249, U_ 250, U_ 251, U_ 252, U_ 253, U_ 254, U_ 255, U_ 256, U_ 257, U_ 258, U_ 259, U_ 260, U_ 261, U_ 262, U_ 263, U_ 264, U_ 265, U_ 266, U_ 267, U_ 268, U_ 269, U_ 270, U_ 271, U_ 272, U_ 273, U_ 274, U_ 275, U_ 276, U_ 277, U_ 278, U_ 279, U_ 280, U_ 281, U_ 282, U_ 283, U_ 284, U_ 285, U_ 286, U_ 287, U_ 288, U_ 289, U_ 290, U_ 291, U_ 292, U_ 293, U_ 294, U_ 295, U_ 296, U_ 297, U_ 298, U_ 299, U_ 300, U_ 301, U_ 302, U_ 303, U_ 304, U_ 305, U_ 306, U_ 307, U_ 308, U_ 309, U_ 310, U_ 311, U_ 312, U_ 313, U_ 314, U_ 315, U_ 316, U_ 317, U_ 318, U_ 319, U_ 320, U_ 321, U_ 322, U_ 323, U_ 324, U_ 325, U_ 326, U_ 327, U_ 328, U_ 329, U_ 330, U_ 331, U_ 332, U_ 333, U_ 334, U_ 335, U_ 336, U_ 337, U_ 338, U_ 339, U_ 340, U_ 341, U_ 342, U_ 343, U_ 344, U_ 345, U_ 346, U_ 347, U_ 348, U_ 349, U_ 350, U_ 351, U_ 352, U_ 353, U_ 354, U_ 355, U_ 356, U_ 357, U_ 358, U_ 359, U_ 360, U_ 361, U_ 362, U_ 363, U_ 364, U_ 365, U_ 366, U_ 367, U_ 368, U_ 369, U_ 370, U_ 371, U_ 372, U_ 373, U_ 374, U_ 375, U_ 376, U_ 377, U_ 378, U_ 379, U_ 380, U_ 381, U_ 382, U_ 383, U_ 384, U_ 385, U_ 386, U_ 387, U_ 388, U_ 389, U_ 390, U_ 391, U_ 392, U_ 393, U_ 394, U_ 395, U_ 396, U_ 397, U_ 398, U_ 399, U_ 400, U_ 401, U_ 402, U_ 403, U_ 404, U_ 405, U_ 406, U_ 407, U_ 408, U_ 409, U_ 410, U_ 411, U_ 412, U_ 413, U_ 414, U_ 415, U_ 416, U_ 417, U_ 418, U_ 419, U_ 420, U_ 421, U_ 422, U_ 423, U_ 424, U_ 425, U_ 426, U_ 427, U_ 428, U_ 429, U_ 430, U_ 431, U_ 432, U_ 433, U_ 434, U_ 435, U_ 436, U_ 437, U_ 438, U_ 439, U_ 440, U_ 441, U_ 442, U_ 443, U_ 444, U_ 445, U_ 446, U_ 447, U_ 448, U_ 449, U_ 450, U_ 451, U_ 452, U_ 453, U_ 454, U_ 455, U_ 456, U_ 457, U_ 458, U_ 459, U_ 460, U_ 461, U_ 462, U_ 463, U_ 464, U_ 465, U_ 466, U_ 467, U_ 468, U_ 469, U_ 470, U_ 471, U_ 472, U_ 473, U_ 474, U_ 475, U_ 476, U_ 477, U_ 478, U_ 479]) (fun U_ wr => ∃ j : Nat, j ≤ 3 ∧ U_ 24 = .int .i64 j ∧ Below w11.heap.size w11 wr) (fun U_ => 3 - (intOf (U_ 24)).toNat) (by kernel_rfl) ⟨0, Nat.zero_le _, rfl, Below.refl _ _⟩ ?_
                      intro U_ wr mmc_ hrel hmc_
                      dsimp only
                      as_aux_lemma =>
                        · skip
                          obtain ⟨j, hj, e24_, hbj⟩ := hrel
                          have hkc_ : 3 - (intOf (U_ 24)).toNat = mmc_ := hmc_.out
                          rw [e24_] at hkc_
                          have HMc_ : Hid (3 - j = mmc_) := Lib.hid hkc_
                          clear hmc_ hkc_
                          rw [e24_]
                          clear e24_
                          by_cases hj3 : j < 3
                          · skip
                            as_aux_lemma =>
                              obtain ⟨b1, o1, y, hB1, hy, hc1⟩ := (HRX.out.below hbj).get hj3
                              obtain ⟨b2, o2, z, hB2, hz, hc2⟩ := (HNW.out.below hbj).get hj3
                              obtain ⟨b3, o3, q, hB3, hq, hc3⟩ := (HRU.out.below hbj).get hj3
                              subst hB1 hB2 hB3
                              have h1 := hc1 0 _ rfl
                              have h2 := hc2 0 _ rfl
                              have h3 := hc3 0 _ rfl
                              simp only [intE, Nat.mul_one, Nat.add_zero] at h1 h2 h3
                              obtain ⟨u0, u1, u2, u3⟩ := HU.out
                              replace u2 := cell_later hbj u2
                              replace u3 := cell_later hbj u3
                              have hzr := HC.out.of hz
                              have hqr := HOX.out.col.of hq
                              have hyo : y = overN x z q := by
                                have h := overL_get hz hq
                                rw [hy] at h
                                exact Option.some.inj h
                              have hov := over_range HOX.out (n := z) (k := q)
                              rw [← hyo] at hov
                              have hP := part_big HOX.out hzr hqr
                              have hcv := HOX.out.cover
                              have hnr := dR_near (mixN x z q)
                              have hyy : dR (mixN x z q) 1000 = y := hyo.symm
                              rw [hyy] at hnr
                              unfold mixN at hnr
                              have hyr : 0 ≤ y ∧ y ≤ 255 := by omega
                              obtain ⟨mn, hmn⟩ : ∃ v, min z q = v := ⟨_, rfl⟩
                              obtain ⟨mx, hmx⟩ : ∃ v, max z q = v := ⟨_, rfl⟩
                              have m1 := fun W => run_min2 (P := Tryz.prog) #[2, 2] 2 z q mn hmn W
                              have m2 := fun W => run_max2 (P := Tryz.prog) #[2, 2] 2 z q mx hmx W
                              rw [hmn, hmx] at hov
                              obtain ⟨AB, hAB⟩ : ∃ v, max (1000 * y - z * (1000 - x.fCover) - q * x.fCover) (-(1000 * y - z * (1000 - x.fCover) - q * x.fCover)) = v := ⟨_, rfl⟩
                              have C0 : ∀ W, Calls Tryz.prog 12 #[.int .i64 (1000 * y - z * (1000 - x.fCover) - q * x.fCover)] (wr.drewN W) fun e w' => e = .returned (.int .i64 AB) ∧ wr.drewN W = w' := fun W => l_r8Abs _ AB _ (by omega) hAB
                              have t1 : ¬ y < mn := by omega
                              have t2 : ¬ mx < y := by omega
                              have t3 : ¬ 1000 < 2 * AB := by omega
                              have t4 : 0 ≤ AB ∧ AB ≤ 500 := by omega
                              have d1 := decide_eq_false t1
                              have d2 := decide_eq_false t2
                              have d3 := decide_eq_false t3
                              obtain ⟨hP1, hP2⟩ := hP
                              clear hc1 hc2 hc3 hy hz hq hov hyo hyy hmn hmx hAB hnr u0 u1
                              go_wp2_with fail
                              go_quiet (first | (go_at_call 12; with_reducible exact quiet_left (C0 _)))
                              clear C0
                              go_wp2
                              exact LoopFr.of (by kernel_rfl) ⟨j + 1, by omega, rfl, below_drewN hbj _⟩ (by have h := HMc_.out; show 3 - (j + 1) < mmc_; omega)
                          · skip
                            as_aux_lemma =>
                              obtain rfl : j = 3 := by omega
                              have hG0 : GL intE 2 wr.heap.size (wr.alloc (.cells #[] 2)) (.slice (some ⟨wr.heap.size, 0, none⟩) 0 0) [] := GL.mk0 (Nat.le_refl _)
                              have hbN : Below wr.heap.size wr (wr.alloc (.cells #[] 2)) := (Below.refl _ _).alloc (Nat.le_refl _) _
                              have hrx := (HRX.out.below hbj).below hbN
                              have hsN := hbN.size
                              obtain ⟨-, u1, -, -⟩ := HU.out
                              replace u1 := cell_later hbj u1
                              clear hj3
                              go_wp2_with (at_builtin; refine wpList_pushL intE rfl _ _ 26 rfl wr.heap.size 2 i0 _ 8 Tryz.underlying26 hi HZ.out.1 HZ.out.2.1 HZ.out.2.2 rfl (.slice (some ⟨wr.heap.size, 0, none⟩) 0 0) [] (overL x NW) rfl hG0 BX 3 qX rfl hrx.1 (Rd.noneLen hrx) (Rd.src hrx) 3 (by simp) (overL x NW) (by simp) (by omega) (by decide) wr hbN hsN ?_; intro B2 q2 w12 hgl12 hcap12 hb12 hs12; have v1 := cell_later hb12 u1)
                              have HN2 : Hid (Rd intE w12 B2 3 (afterL l (ord.take (k + 1)) g)) := Lib.hid (by rw [HNX.out]; exact hgl12.rd)
                              have hbF := HB11.out.trans ((hbj.trans (hb12.mono hbj.size)).mono HB11.out.size)
                              clear hgl12 hcap12 hb12 hs12 hG0 hbN hrx hsN
                              go_wp2
                              exact LoopFr.of (by kernel_rfl) ⟨k + 1, B2, q2, by omega, rfl, rfl, by rw [HDX.out]; rfl, HN2, hbF⟩ (by have h := HMb_.out; show m - (k + 1) < mmb_; omega)
              · skip
                as_aux_lemma =>
                  obtain rfl : m = k := by omega
                  have e1 : daysL l (ord.take m) = DD := by rw [List.take_of_length_le (by rw [HLO.out]; exact Nat.le_refl _)]; exact HDD.out
                  have e2 : afterL l (ord.take m) g = afterL l ord g := by rw [List.take_of_length_le (by rw [HLO.out]; exact Nat.le_refl _)]
                  rw [e1]
                  rw [e2] at HN
                  have hdd : (DD != DD) = false := by simp
                  clear e1 e2
                  go_wp2_with fail
                  refine (l_r8Same_yes BN BA 3 qN qA (afterL l ord g) wr HN.out (HRA.out.below hb) (by omega)).mono ?_
                  rintro e w13 ⟨rfl, b13⟩
                  have hb13 := hb.trans (b13.mono hb.size)
                  have HB13 := Lib.hid (HB10.out.trans (hb13.mono HB10.out.size))
                  have HP0 : Hid (GL intE 2 w13.heap.size (w13.alloc (.cells #[] 2)) (.slice (some ⟨w13.heap.size, 0, none⟩) 0 0) []) := Lib.hid (GL.mk0 (Nat.le_refl _))
                  have hbP : Below w13.heap.size w13 (w13.alloc (.cells #[] 2)) := (Below.refl _ _).alloc (Nat.le_refl _) _
                  clear b13 hb13 hb HN HRA HB10 HGO10 hdd HLO
                  as_aux_lemma =>
                    go_wp2_with fail
                    refine wp_loop_U (fun U_ => [U_ 0, .slice A1 n1 c1, U_ 2, U_ 3, U_ 4, .slice A n c, .slice BG 3 3, .slice BT 3 3, U_ 8, U_ 9, U_ 10, U_ 11, U_ 12, U_ 13, U_ 14, U_ 15, U_ 16, U_ 17, U_ 18, U_ 19, U_ 20, U_ 21, U_ 22, U_ 23, U_ 24, U_ 25, U_ 26, U_ 27, U_ 28, U_ 29, U_ 30, U_ 31, U_ 32, U_ 33, U_ 34, U_ 35, U_ 36, U_ 37, U_ 38, U_ 39, U_ 40, U_ 41, U_ 42, U_ 43, U_ 44, U_ 45, U_ 46, U_ 47, U_ 48, U_ 49, U_ 50, U_ 51, U_ 52, U_ 53, U_ 54, U_ 55, U_ 56, U_ 57, U_ 58, U_ 59, U_ 60, U_ 61, U_ 62, U_ 63, U_ 64, U_ 65, U_ 66, U_ 67, U_ 68, U_ 69, U_ 70, U_ 71, U_ 72, U_ 73, U_ 74, U_ 75, U_ 76, U_ 77, U_ 78, U_ 79, U_ 80, U_ 81, U_ 82, U_ 83, U_ 84, U_ 85, U_ 86, U_ 87, U_ 88, U_ 89, U_ 90, U_ 91, U_ 92, U_ 93, U_ 94, U_ 95, U_ 96, U_ 97, U_ 98, U_ 99, U_ 100, U_ 101, U_ 102, U_ 103, U_ 104, U_ 105, U_ 106, U_ 107, U_ 108, U_ 109, U_ 110, U_ 111, U_ 112, U_ 113, U_ 114, U_ 115, U_ 116, U_ 117, U_ 118, U_ 119, U_ 120, U_ 121, U_ 122, U_ 123, U_ 124, U_ 125, U_ 126, U_ 127, U_ 128, U_ 129, U_ 130, U_ 131, U_ 132, U_ 133, U_ 134, U_ 135, U_ 136, U_ 137, U_ 138, U_ 139, U_ 140, U_ 141, U_ 142, U_ 143, U_ 144, U_ 145, U_ 146, U_ 147, U_ 148, U_ 149, U_ 150, U_ 151, U_ 152, U_ 153, U_ 154, U_ 155, U_ 156, U_ 157, U_ 158, U_ 159, U_ 160, U_ 161, U_ 162, U_ 163, U_ 164, U_ 165, U_ 166, U_ 167, U_ 168, U_ 169, U_ 170, U_ 171, U_ 172, U_ 173, U_ 174, U_ 175, U_ 176, U_ 177, U_ 178, U_ 179, U_ 180, U_ 181, U_ 182, U_ 183, U_ 184, U_ 185, U_ 186, U_ 187, U_ 188, U_ 189, U_ 190, U_ 191, U_ 192, U_ 193, U_ 194, U_ 195, U_ 196, U_ 197, U_ 198, U_ 199, U_ 200, U_ 201, U_ 202, U_ 203, U_ 204, U_ 205, U_ 206, U_ 207, U_ 208, U_ 209, U_ 210, U_ 211, U_ 212, U_ 213, U_ 214, U_ 215, U_ 216, U_ 217, U_ 218, U_ 219, U_ 220, U_ 221, U_ 222, U_ 223, U_ 224, U_ 225, U_ 226, U_ 227, U_ 228, U_ 229, U_ 230, U_ 231, U_ 232, U_ 233, U_ 234, U_ 235, U_ 236, U_ 237, U_ 238, U_ 239, U_ 240, U_ 241, U_ 242, U_ 243, U_ 244, U_ 245, U_ 246, U_ 247, U_ 248, U_ 249, U_ 250, U_ 251, U_ 252, U_ 253, U_ 254, U_ 255, U_ 256, U_ 257, U_ 258, U_ 259, U_ 260, U_ 261, U_ 262, U_ 263, U_ 264, U_ 265, U_ 266, U_ 267, U_ 268, U_ 269, U_ 270, U_ 271, U_ 272, U_ 273, U_ 274, U_ 275, U_ 276, U_ 277, U_ 278, U_ 279, U_ 280, U_ 281, U_ 282, U_ 283, U_ 284, U_ 285, U_ 286, U_ 287, U_ 288, U_ 289, U_ 290, U_ 291, U_ 292, U_ 293, U_ 294, U_ 295, U_ 296, U_ 297, U_ 298, U_ 299, U_ 300, U_ 301, U_ 302, U_ 303, U_ 304, U_ 305, U_ 306, U_ 307, U_ 308, U_ 309, U_ 310, U_ 311, U_ 312, U_ 313, U_ 314, U_ 315, U_ 316, U_ 317, U_ 318, U_ 319, U_ 320, U_ 321, U_ 322, U_ 323, U_ 324, U_ 325, U_ 326, U_ 327, U_ 328, U_ 329, U_ 330, U_ 331, U_ 332, U_ 333, U_ 334, U_ 335, U_ 336, U_ 337, U_ 338, U_ 339, U_ 340, U_ 341, U_ 342, U_ 343, U_ 344, U_ 345, U_ 346, U_ 347, U_ 348, U_ 349, U_ 350, U_ 351, U_ 352, U_ 353, U_ 354, U_ 355, U_ 356, U_ 357, U_ 358, U_ 359, U_ 360, U_ 361, U_ 362, U_ 363, U_ 364, U_ 365, U_ 366, U_ 367, U_ 368, U_ 369, U_ 370, U_ 371, U_ 372, U_ 373, U_ 374, U_ 375, U_ 376, U_ 377, U_ 378, U_ 379, U_ 380, U_ 381, U_ 382, U_ 383, U_ 384, U_ 385, U_ 386, U_ 387, U_ 388, U_ 389, U_ 390, U_ 391, U_ 392, U_ 393, U_ 394, U_ 395, U_ 396, U_ 397, U_ 398, U_ 399, U_ 400, U_ 401, U_ 402, U_ 403, U_ 404, U_ 405, U_ 406, U_ 407, U_ 408, U_ 409, U_ 410, U_ 411, U_ 412, U_ 413, U_ 414, U_ 415, U_ 416, U_ 417, U_ 418, U_ 419, U_ 420, U_ 421, U_ 422, U_ 423, U_ 424, U_ 425, U_ 426, U_ 427, U_ 428, U_ 429, U_ 430, U_ 431, U_ 432, U_ 433, U_ 434, U_ 435, U_ 436, U_ 437, U_ 438, U_ 439, U_ 440, U_ 441, U_ 442, U_ 443, U_ 444, U_ 445, U_ 446, U_ 447, U_ 448, U_ 449, U_ 450, U_ 451, U_ 452, U_ 453, U_ 454, U_ 455, U_ 456, U_ 457, U_ 458, U_ 459, U_ 460, U_ 461, U_ 462, U_ 463, U_ 464, U_ 465, U_ 466, U_ 467, U_ 468, U_ 469, U_ 470, U_ 471, U_ 472, U_ 473, U_ 474, U_ 475, U_ 476, U_ 477, U_ 478, U_ 479]) (fun U_ wr => ∃ (k : Nat) (AP : Option Addr) (cP : Nat) (p : List Int), k ≤ n ∧ U_ 27 = .int .i64 k ∧ U_ 25 = .slice AP k cP ∧ U_ 26 = .int .i64 p.sum ∧ Hid (GL intE 2 w13.heap.size wr (.slice AP k cP) p) ∧ Hid (∀ q ∈ p, 0 ≤ q ∧ q ≤ 5) ∧ Below w13.heap.size w13 wr) (fun U_ => n - (intOf (U_ 27)).toNat) (by kernel_rfl) ⟨0, _, 0, [], Nat.zero_le _, rfl, rfl, rfl, HP0, Lib.hid (fun q h => by cases h), hbP⟩ ?_
                    intro U_ wr mmd_ hrel hmd_
                    dsimp only
                    as_aux_lemma =>
                      · skip
                        obtain ⟨k, AP, cP, p, hk, e27_, e25_, e26_, HGP, HPR, hb⟩ := hrel
                        have hkd_ : n - (intOf (U_ 27)).toNat = mmd_ := hmd_.out
                        rw [e27_] at hkd_
                        have HMd_ : Hid (n - k = mmd_) := Lib.hid hkd_
                        clear hmd_ hkd_
                        rw [e27_, e25_, e26_]
                        clear e27_ e25_ e26_
                        clear HP0 hbP
                        by_cases hlt : k < n
                        · skip
                          as_aux_lemma =>
                            have hgl := HGP.out
                            have hsb := hb.size
                            have hsum : 0 ≤ p.sum ∧ p.sum ≤ 5 * k := by
                              have h1 := sum_range_of HPR.out k (by rw [hgl.len]; exact Nat.le_refl _)
                              rw [List.take_of_length_le (by rw [hgl.len]; exact Nat.le_refl _)] at h1
                              exact h1
                            have HLP := Lib.hid hgl.len
                            obtain ⟨S, hS⟩ : ∃ S, p.sum = S := ⟨_, rfl⟩
                            have HS := Lib.hid hS
                            rw [hS] at hsum ⊢
                            clear hS HGP
                            go_wp2_with fail
                            refine (l_r8At A1 n1 c1 l1 (50 + k) 6 _ (HRM.out.below (HB13.out.trans (hb.mono HB13.out.size))) hn1 (by omega) (by omega) (by omega)).mono ?_
                            rintro e w5 ⟨r, hr6, -, rfl, rfl⟩
                            have HR2 : Hid (∀ q ∈ p ++ [(r : Int)], 0 ≤ q ∧ q ≤ 5) := Lib.hid fun q hq => by
                              rcases List.mem_append.1 hq with h1 | h1
                              · exact HPR.out q h1
                              · rw [List.mem_singleton] at h1; omega
                            have HS2 : Hid ((p ++ [(r : Int)]).sum = S + r) := Lib.hid (by rw [List.sum_append, HS.out]; simp)
                            go_wp2_with (at_builtin; refine wpList_pushO intE rfl _ _ 26 rfl w13.heap.size 2 i0 _ 8 Tryz.underlying26 hi HZ.out.1 HZ.out.2.1 HZ.out.2.2 rfl AP k cP p (r : Int) rfl (hgl.alloc _) wr.heap.size rfl (range_new _ _ _) (by omega) (by decide) (Nat.le_trans hsb (by simp)) ?_; intro B2 c2 w6 hgl2 ht2 hn2; obtain ⟨gP, rfl⟩ := hgl2.place (by omega); have hcell := hgl2.cellI (j := k) (v := (r : Int)) (by rw [← HLP.out]; simp))
                            have hb2 := Below.touch (hb.alloc hsb (.cells #[.int .i64 (r : Int)] 2)) ht2 (fun k hk => (hgl.lt k hk).1) (Nat.le_trans hsb (by simp))
                            have HG2 := Lib.hid hgl2
                            clear hgl hgl2 ht2 hn2 hcell
                            go_wp2
                            exact LoopFr.of (by kernel_rfl) ⟨k + 1, some ⟨gP, 0, none⟩, c2, p ++ [(r : Int)], by omega, rfl, rfl, by rw [HS2.out]; rfl, HG2, HR2, hb2⟩ (by have h := HMd_.out; show n - (k + 1) < mmd_; omega)
                        · skip
                          as_aux_lemma =>
                            obtain rfl : n = k := by omega
                            have HLP := Lib.hid HGP.out.len
                            have hb3r := HB13.out.trans (hb.mono HB13.out.size)
                            go_wp2_with fail
                            refine (i_MixColours A n c l AP cP p wr (HRL.out.below hb3r) HGP.out.rd HO.out HPR.out).mono ?_
                            intro e w16 h
                            obtain ⟨hmix, b16⟩ := h
                            obtain ⟨BM, mM, qM, ec, rfl, HM⟩ : ∃ (BM : Option Addr) (mM qM : Nat) (ec : Int), e = .returned (.tuple #[.slice BM mM qM, .int .i64 ec]) ∧ Hid ((p.sum = 0 ∧ ec = 7) ∨ (0 < p.sum ∧ ec = 0 ∧ mM = 3 ∧ Rd intE w16 BM 3 (mixR p l))) := by
                              rcases hmix with ⟨h1, rfl⟩ | ⟨h1, B, q, rfl, h2⟩
                              · exact ⟨none, 0, 0, 7, rfl, Lib.hid (.inl ⟨h1, rfl⟩)⟩
                              · exact ⟨B, 3, q, 0, rfl, Lib.hid (.inr ⟨h1, rfl, rfl, h2⟩)⟩
                            have HB16 := Lib.hid (hb3r.trans (b16.mono hb3r.size))
                            obtain ⟨S, hS⟩ : ∃ S, p.sum = S := ⟨_, rfl⟩
                            have HS0 := Lib.hid hS
                            rw [hS]
                            clear hmix b16 hb3r hb HGP hS
                            as_aux_lemma =>
                              go_upto_region 44 with fail
                              refine wp_cut_U (fun U_ => [U_ 0, .slice A1 n1 c1, U_ 2, U_ 3, U_ 4, .slice A n c, .slice BG 3 3, .slice BT 3 3, U_ 8, U_ 9, U_ 10, U_ 11, U_ 12, U_ 13, U_ 14, U_ 15, U_ 16, U_ 17, U_ 18, U_ 19, U_ 20, U_ 21, U_ 22, U_ 23, U_ 24, U_ 25, U_ 26, U_ 27, .slice BM mM qM, .int .i64 ec, U_ 30, U_ 31, U_ 32, U_ 33, U_ 34, U_ 35, U_ 36, U_ 37, U_ 38, U_ 39, U_ 40, U_ 41, U_ 42, U_ 43, U_ 44, U_ 45, U_ 46, U_ 47, U_ 48, U_ 49, U_ 50, U_ 51, U_ 52, U_ 53, U_ 54, U_ 55, U_ 56, U_ 57, U_ 58, U_ 59, U_ 60, U_ 61, U_ 62, U_ 63, U_ 64, U_ 65, U_ 66, U_ 67, U_ 68, U_ 69, U_ 70, U_ 71, U_ 72, U_ 73, U_ 74, U_ 75, U_ 76, U_ 77, U_ 78, U_ 79, U_ 80, U_ 81, U_ 82, U_ 83, U_ 84, U_ 85, U_ 86, U_ 87, U_ 88, U_ 89, U_ 90, U_ 91, U_ 92, U_ 93, U_ 94, U_ 95, U_ 96, U_ 97, U_ 98, U_ 99, U_ 100, U_ 101, U_ 102, U_ 103, U_ 104, U_ 105, U_ 106, U_ 107, U_ 108, U_ 109, U_ 110, U_ 111, U_ 112, U_ 113, U_ 114, U_ 115, U_ 116, U_ 117, U_ 118, U_ 119, U_ 120, U_ 121, U_ 122, U_ 123, U_ 124, U_ 125, U_ 126, U_ 127, U_ 128, U_ 129, U_ 130, U_ 131, U_ 132, U_ 133, U_ 134, U_ 135, U_ 136, U_ 137, U_ 138, U_ 139, U_ 140, U_ 141, U_ 142, U_ 143, U_ 144, U_ 145, U_ 146, U_ 147, U_ 148, U_ 149, U_ 150, U_ 151, U_ 152, U_ 153, U_ 154, U_ 155, U_ 156, U_ 157, U_ 158, U_ 159, U_ 160, U_ 161, U_ 162, U_ 163, U_ 164, U_ 165, U_ 166, U_ 167, U_ 168, U_ 169, U_ 170, U_ 171, U_ 172, U_ 173, U_ 174, U_ 175, U_ 176, U_ 177, U_ 178, U_ 179, U_ 180, U_ 181, U_ 182, U_ 183, U_ 184, U_ 185, U_ 186, U_ 187, U_ 188, U_ 189, U_ 190, U_ 191, U_ 192, U_ 193, U_ 194, U_ 195, U_ 196, U_ 197, U_ 198, U_ 199, U_ 200, U_ 201, U_ 202, U_ 203, U_ 204, U_ 205, U_ 206, U_ 207, U_ 208, U_ 209, U_ 210, U_ 211, U_ 212, U_ 213, U_ 214, U_ 215, U_ 216, U_ 217, U_ 218, U_ 219, U_ 220, U_ 221, U_ 222, U_ 223, U_ 224, U_ 225, U_ 226, U_ 227, U_ 228, U_ 229, U_ 230, U_ 231, U_ 232, U_ 233, U_ 234, U_ 235, U_ 236, U_ 237, U_ 238, U_ 239, U_ 240, U_ 241, U_ 242, U_ 243, U_ 244, U_ 245, U_ 246, U_ 247, U_ 248, U_ 249, U_ 250, U_ 251, U_ 252, U_ 253, U_ 254, U_ 255, U_ 256, U_ 257, U_ 258, U_ 259, U_ 260, U_ 261, U_ 262, U_ 263, U_ 264, U_ 265, U_ 266, U_ 267, U_ 268, U_ 269, U_ 270, U_ 271, U_ 272, U_ 273, U_ 274, U_ 275, U_ 276, U_ 277, U_ 278, U_ 279, U_ 280, .bool false, U_ 282, U_ 283, U_ 284, U_ 285, U_ 286, U_ 287, U_ 288, U_ 289, U_ 290, U_ 291, U_ 292, U_ 293, U_ 294, U_ 295, U_ 296, U_ 297, U_ 298, U_ 299, U_ 300, U_ 301, U_ 302, U_ 303, U_ 304, U_ 305, U_ 306, U_ 307, U_ 308, U_ 309, U_ 310, U_ 311, U_ 312, U_ 313, U_ 314, U_ 315, U_ 316, U_ 317, U_ 318, U_ 319, U_ 320, U_ 321, U_ 322, U_ 323, U_ 324, U_ 325, U_ 326, U_ 327, U_ 328, U_ 329, U_ 330, U_ 331, U_ 332, U_ 333, U_ 334, U_ 335, U_ 336, U_ 337, U_ 338, U_ 339, U_ 340, U_ 341, U_ 342, U_ 343, U_ 344, U_ 345, U_ 346, U_ 347, U_ 348, U_ 349, U_ 350, U_ 351, U_ 352, U_ 353, U_ 354, U_ 355, U_ 356, U_ 357, U_ 358, U_ 359, U_ 360, U_ 361, U_ 362, U_ 363, U_ 364, U_ 365, U_ 366, U_ 367, U_ 368, U_ 369, U_ 370, U_ 371, U_ 372, U_ 373, U_ 374, U_ 375, U_ 376, U_ 377, U_ 378, U_ 379, U_ 380, U_ 381, U_ 382, U_ 383, U_ 384, U_ 385, U_ 386, U_ 387, U_ 388, U_ 389, U_ 390, U_ 391, U_ 392, U_ 393, U_ 394, U_ 395, U_ 396, U_ 397, U_ 398, U_ 399, U_ 400, U_ 401, U_ 402, U_ 403, U_ 404, U_ 405, U_ 406, U_ 407, U_ 408, U_ 409, U_ 410, U_ 411, U_ 412, U_ 413, U_ 414, U_ 415, U_ 416, U_ 417, U_ 418, U_ 419, U_ 420, U_ 421, U_ 422, U_ 423, U_ 424, U_ 425, U_ 426, U_ 427, U_ 428, U_ 429, U_ 430, U_ 431, U_ 432, U_ 433, U_ 434, U_ 435, U_ 436, U_ 437, U_ 438, U_ 439, U_ 440, U_ 441, U_ 442, U_ 443, U_ 444, U_ 445, U_ 446, U_ 447, U_ 448, U_ 449, U_ 450, U_ 451, U_ 452, U_ 453, U_ 454, U_ 455, U_ 456, U_ 457, U_ 458, U_ 459, U_ 460, U_ 461, U_ 462, U_ 463, U_ 464, U_ 465, U_ 466, U_ 467, U_ 468, U_ 469, U_ 470, U_ 471, U_ 472, U_ 473, U_ 474, U_ 475, U_ 476, U_ 477, U_ 478, U_ 479]) (fun U_ wx =>  wx = w16) ?_ ?_
                              · intro J_ K_ hJ_ hK_
                                rcases HM.out with ⟨h1, rfl⟩ | ⟨h1, rfl, rfl, -⟩
                                · rw [HS0.out] at h1
                                  subst h1
                                  go_wp2
                                  exact Met.intro (hJ_ _ _ (CutFr.of (by kernel_rfl) rfl))
                                · rw [HS0.out] at h1
                                  go_wp2
                                  exact Met.intro (hJ_ _ _ (CutFr.of (by kernel_rfl) rfl))
                              · intro U_ wc hcut
                                dsimp only
                                subst hcut
                                obtain ⟨w16, hw16⟩ : ∃ w16 : World, w16 = wc := ⟨_, rfl⟩
                                subst hw16
                                clear HS0
                                as_aux_lemma =>
                                  go_wp2_with fail
                                  refine wp_loop_U (fun U_ => [U_ 0, .slice A1 n1 c1, U_ 2, U_ 3, U_ 4, .slice A n c, .slice BG 3 3, .slice BT 3 3, U_ 8, U_ 9, U_ 10, U_ 11, U_ 12, U_ 13, U_ 14, U_ 15, U_ 16, U_ 17, U_ 18, U_ 19, U_ 20, U_ 21, U_ 22, U_ 23, U_ 24, U_ 25, U_ 26, U_ 27, .slice BM mM qM, .int .i64 ec, U_ 30, U_ 31, U_ 32, U_ 33, U_ 34, U_ 35, U_ 36, U_ 37, U_ 38, U_ 39, U_ 40, U_ 41, U_ 42, U_ 43, U_ 44, U_ 45, U_ 46, U_ 47, U_ 48, U_ 49, U_ 50, U_ 51, U_ 52, U_ 53, U_ 54, U_ 55, U_ 56, U_ 57, U_ 58, U_ 59, U_ 60, U_ 61, U_ 62, U_ 63, U_ 64, U_ 65, U_ 66, U_ 67, U_ 68, U_ 69, U_ 70, U_ 71, U_ 72, U_ 73, U_ 74, U_ 75, U_ 76, U_ 77, U_ 78, U_ 79, U_ 80, U_ 81, U_ 82, U_ 83, U_ 84, U_ 85, U_ 86, U_ 87, U_ 88, U_ 89, U_ 90, U_ 91, U_ 92, U_ 93, U_ 94, U_ 95, U_ 96, U_ 97, U_ 98, U_ 99, U_ 100, U_ 101, U_ 102, U_ 103, U_ 104, U_ 105, U_ 106, U_ 107, U_ 108, U_ 109, U_ 110, U_ 111, U_ 112, U_ 113, U_ 114, U_ 115, U_ 116, U_ 117, U_ 118, U_ 119, U_ 120, U_ 121, U_ 122, U_ 123, U_ 124, U_ 125, U_ 126, U_ 127, U_ 128, U_ 129, U_ 130, U_ 131, U_ 132, U_ 133, U_ 134, U_ 135, U_ 136, U_ 137, U_ 138, U_ 139, U_ 140, U_ 141, U_ 142, U_ 143, U_ 144, U_ 145, U_ 146, U_ 147, U_ 148, U_ 149, U_ 150, U_ 151, U_ 152, U_ 153, U_ 154, U_ 155, U_ 156, U_ 157, U_ 158, U_ 159, U_ 160, U_ 161, U_ 162, U_ 163, U_ 164, U_ 165, U_ 166, U_ 167, U_ 168, U_ 169, U_ 170, U_ 171, U_ 172, U_ 173, U_ 174, U_ 175, U_ 176, U_ 177, U_ 178, U_ 179, U_ 180, U_ 181, U_ 182, U_ 183, U_ 184, U_ 185, U_ 186, U_ 187, U_ 188, U_ 189, U_ 190, U_ 191, U_ 192, U_ 193, U_ 194, U_ 195, U_ 196, U_ 197, U_ 198, U_ 199, U_ 200, U_ 201, U_ 202, U_ 203, U_ 204, U_ 205, U_ 206, U_ 207, U_ 208, U_ 209, U_ 210, U_ 211, U_ 212, U_ 213, U_ 214, U_ 215, U_ 216, U_ 217, U_ 218, U_ 219, U_ 220, U_ 221, U_ 222, U_ 223, U_ 224, U_ 225, U_ 226, U_ 227, U_ 228, U_ 229, U_ 230, U_ 231, U_ 232, U_ 233, U_ 234, U_ 235, U_ 236, U_ 237, U_ 238, U_ 239, U_ 240, U_ 241, U_ 242, U_ 243, U_ 244, U_ 245, U_ 246, U_ 247, U_ 248, U_ 249, U_ 250, U_ 251, U_ 252, U_ 253, U_ 254, U_ 255, U_ 256, U_ 257, U_ 258, U_ 259, U_ 260, U_ 261, U_ 262, U_ 263, U_ 264, U_ 265, U_ 266, U_ 267, U_ 268, U_ 269, U_ 270, U_ 271, U_ 272, U_ 273, U_ 274, U_ 275, U_ 276, U_ 277, U_ 278, U_ 279, U_ 280, U_ 281, U_ 282, U_ 283, U_ 284, U_ 285, U_ 286, U_ 287, U_ 288, U_ 289, U_ 290, U_ 291, U_ 292, U_ 293, U_ 294, U_ 295, U_ 296, U_ 297, U_ 298, U_ 299, U_ 300, U_ 301, U_ 302, U_ 303, U_ 304, U_ 305, U_ 306, U_ 307, U_ 308, U_ 309, U_ 310, U_ 311, U_ 312, U_ 313, U_ 314, U_ 315, U_ 316, U_ 317, U_ 318, U_ 319, U_ 320, U_ 321, U_ 322, U_ 323, U_ 324, U_ 325, U_ 326, U_ 327, U_ 328, U_ 329, U_ 330, U_ 331, U_ 332, U_ 333, U_ 334, U_ 335, U_ 336, U_ 337, U_ 338, U_ 339, U_ 340, U_ 341, U_ 342, U_ 343, U_ 344, U_ 345, U_ 346, U_ 347, U_ 348, U_ 349, U_ 350, U_ 351, U_ 352, U_ 353, U_ 354, U_ 355, U_ 356, U_ 357, U_ 358, U_ 359, U_ 360, U_ 361, U_ 362, U_ 363, U_ 364, U_ 365, U_ 366, U_ 367, U_ 368, U_ 369, U_ 370, U_ 371, U_ 372, U_ 373, U_ 374, U_ 375, U_ 376, U_ 377, U_ 378, U_ 379, U_ 380, U_ 381, U_ 382, U_ 383, U_ 384, U_ 385, U_ 386, U_ 387, U_ 388, U_ 389, U_ 390, U_ 391, U_ 392, U_ 393, U_ 394, U_ 395, U_ 396, U_ 397, U_ 398, U_ 399, U_ 400, U_ 401, U_ 402, U_ 403, U_ 404, U_ 405, U_ 406, U_ 407, U_ 408, U_ 409, U_ 410, U_ 411, U_ 412, U_ 413, U_ 414, U_ 415, U_ 416, U_ 417, U_ 418, U_ 419, U_ 420, U_ 421, U_ 422, U_ 423, U_ 424, U_ 425, U_ 426, U_ 427, U_ 428, U_ 429, U_ 430, U_ 431, U_ 432, U_ 433, U_ 434, U_ 435, U_ 436, U_ 437, U_ 438, U_ 439, U_ 440, U_ 441, U_ 442, U_ 443, U_ 444, U_ 445, U_ 446, U_ 447, U_ 448, U_ 449, U_ 450, U_ 451, U_ 452, U_ 453, U_ 454, U_ 455, U_ 456, U_ 457, U_ 458, U_ 459, U_ 460, U_ 461, U_ 462, U_ 463, U_ 464, U_ 465, U_ 466, U_ 467, U_ 468, U_ 469, U_ 470, U_ 471, U_ 472, U_ 473, U_ 474, U_ 475, U_ 476, U_ 477, U_ 478, U_ 479]) (fun U_ wr => ∃ k : Nat, k ≤ 3 ∧ U_ 30 = .int .i64 k ∧ Below w16.heap.size w16 wr) (fun U_ => 3 - (intOf (U_ 30)).toNat) (by kernel_rfl) ⟨0, Nat.zero_le _, rfl, Below.refl _ _⟩ ?_
                                  intro U_ wr mme_ hrel hme_
                                  dsimp only
                                  as_aux_lemma =>
                                    · skip
                                      obtain ⟨k, hk, e30_, hb⟩ := hrel
                                      have hke_ : 3 - (intOf (U_ 30)).toNat = mme_ := hme_.out
                                      rw [e30_] at hke_
                                      have HMe_ : Hid (3 - k = mme_) := Lib.hid hke_
                                      clear hme_ hke_
                                      rw [e30_]
                                      clear e30_
                                      obtain ⟨wk, hwk⟩ : ∃ wk : World, wk = wr := ⟨_, rfl⟩
                                      subst hwk
                                      obtain ⟨bb, HBB⟩ : ∃ bb : Bool, Hid (bb = true ↔ (k < 3 ∧ ec = 0)) := ⟨decide (k < 3 ∧ ec = 0), Lib.hid (by simp)⟩
                                      go_upto_region 47 with fail
                                      refine wp_cut_U (fun U_ => [U_ 0, .slice A1 n1 c1, U_ 2, U_ 3, U_ 4, .slice A n c, .slice BG 3 3, .slice BT 3 3, U_ 8, U_ 9, U_ 10, U_ 11, U_ 12, U_ 13, U_ 14, U_ 15, U_ 16, U_ 17, U_ 18, U_ 19, U_ 20, U_ 21, U_ 22, U_ 23, U_ 24, U_ 25, U_ 26, U_ 27, .slice BM mM qM, .int .i64 ec, .int .i64 k, U_ 31, U_ 32, U_ 33, U_ 34, U_ 35, U_ 36, U_ 37, U_ 38, U_ 39, U_ 40, U_ 41, U_ 42, U_ 43, U_ 44, U_ 45, U_ 46, U_ 47, U_ 48, U_ 49, U_ 50, U_ 51, U_ 52, U_ 53, U_ 54, U_ 55, U_ 56, U_ 57, U_ 58, U_ 59, U_ 60, U_ 61, U_ 62, U_ 63, U_ 64, U_ 65, U_ 66, U_ 67, U_ 68, U_ 69, U_ 70, U_ 71, U_ 72, U_ 73, U_ 74, U_ 75, U_ 76, U_ 77, U_ 78, U_ 79, U_ 80, U_ 81, U_ 82, U_ 83, U_ 84, U_ 85, U_ 86, U_ 87, U_ 88, U_ 89, U_ 90, U_ 91, U_ 92, U_ 93, U_ 94, U_ 95, U_ 96, U_ 97, U_ 98, U_ 99, U_ 100, U_ 101, U_ 102, U_ 103, U_ 104, U_ 105, U_ 106, U_ 107, U_ 108, U_ 109, U_ 110, U_ 111, U_ 112, U_ 113, U_ 114, U_ 115, U_ 116, U_ 117, U_ 118, U_ 119, U_ 120, U_ 121, U_ 122, U_ 123, U_ 124, U_ 125, U_ 126, U_ 127, U_ 128, U_ 129, U_ 130, U_ 131, U_ 132, U_ 133, U_ 134, U_ 135, U_ 136, U_ 137, U_ 138, U_ 139, U_ 140, U_ 141, U_ 142, U_ 143, U_ 144, U_ 145, U_ 146, U_ 147, U_ 148, U_ 149, U_ 150, U_ 151, U_ 152, U_ 153, U_ 154, U_ 155, U_ 156, U_ 157, U_ 158, U_ 159, U_ 160, U_ 161, U_ 162, U_ 163, U_ 164, U_ 165, U_ 166, U_ 167, U_ 168, U_ 169, U_ 170, U_ 171, U_ 172, U_ 173, U_ 174, U_ 175, U_ 176, U_ 177, U_ 178, U_ 179, U_ 180, U_ 181, U_ 182, U_ 183, U_ 184, U_ 185, U_ 186, U_ 187, U_ 188, U_ 189, U_ 190, U_ 191, U_ 192, U_ 193, U_ 194, U_ 195, U_ 196, U_ 197, U_ 198, U_ 199, U_ 200, U_ 201, U_ 202, U_ 203, U_ 204, U_ 205, U_ 206, U_ 207, U_ 208, U_ 209, U_ 210, U_ 211, U_ 212, U_ 213, U_ 214, U_ 215, U_ 216, U_ 217, U_ 218, U_ 219, U_ 220, U_ 221, U_ 222, U_ 223, U_ 224, U_ 225, U_ 226, U_ 227, U_ 228, U_ 229, U_ 230, U_ 231, U_ 232, U_ 233, U_ 234, U_ 235, U_ 236, U_ 237, U_ 238, U_ 239, U_ 240, U_ 241, U_ 242, U_ 243, U_ 244, U_ 245, U_ 246, U_ 247, U_ 248, U_ 249, U_ 250, U_ 251, U_ 252, U_ 253, U_ 254, U_ 255, U_ 256, U_ 257, U_ 258, U_ 259, U_ 260, U_ 261, U_ 262, U_ 263, U_ 264, U_ 265, U_ 266, U_ 267, U_ 268, U_ 269, U_ 270, U_ 271, U_ 272, U_ 273, U_ 274, U_ 275, U_ 276, U_ 277, U_ 278, U_ 279, U_ 280, U_ 281, U_ 282, U_ 283, U_ 284, U_ 285, U_ 286, .bool bb, U_ 288, U_ 289, U_ 290, U_ 291, U_ 292, U_ 293, U_ 294, U_ 295, U_ 296, U_ 297, U_ 298, U_ 299, U_ 300, U_ 301, U_ 302, U_ 303, U_ 304, U_ 305, U_ 306, U_ 307, U_ 308, U_ 309, U_ 310, U_ 311, U_ 312, U_ 313, U_ 314, U_ 315, U_ 316, U_ 317, U_ 318, U_ 319, U_ 320, U_ 321, U_ 322, U_ 323, U_ 324, U_ 325, U_ 326, U_ 327, U_ 328, U_ 329, U_ 330, U_ 331, U_ 332, U_ 333, U_ 334, U_ 335, U_ 336, U_ 337, U_ 338, U_ 339, U_ 340, U_ 341, U_ 342, U_ 343, U_ 344, U_ 345, U_ 346, U_ 347, U_ 348, U_ 349, U_ 350, U_ 351, U_ 352, U_ 353, U_ 354, U_ 355, U_ 356, U_ 357, U_ 358, U_ 359, U_ 360, U_ 361, U_ 362, U_ 363, U_ 364, U_ 365, U_ 366, U_ 367, U_ 368, U_ 369, U_ 370, U_ 371, U_ 372, U_ 373, U_ 374, U_ 375, U_ 376, U_ 377, U_ 378, U_ 379, U_ 380, U_ 381, U_ 382, U_ 383, U_ 384, U_ 385, U_ 386, U_ 387, U_ 388, U_ 389, U_ 390, U_ 391, U_ 392, U_ 393, U_ 394, U_ 395, U_ 396, U_ 397, U_ 398, U_ 399, U_ 400, U_ 401, U_ 402, U_ 403, U_ 404, U_ 405, U_ 406, U_ 407, U_ 408, U_ 409, U_ 410, U_ 411, U_ 412, U_ 413, U_ 414, U_ 415, U_ 416, U_ 417, U_ 418, U_ 419, U_ 420, U_ 421, U_ 422, U_ 423, U_ 424, U_ 425, U_ 426, U_ 427, U_ 428, U_ 429, U_ 430, U_ 431, U_ 432, U_ 433, U_ 434, U_ 435, U_ 436, U_ 437, U_ 438, U_ 439, U_ 440, U_ 441, U_ 442, U_ 443, U_ 444, U_ 445, U_ 446, U_ 447, U_ 448, U_ 449, U_ 450, U_ 451, U_ 452, U_ 453, U_ 454, U_ 455, U_ 456, U_ 457, U_ 458, U_ 459, U_ 460, U_ 461, U_ 462, U_ 463, U_ 464, U_ 465, U_ 466, U_ 467, U_ 468, U_ 469, U_ 470, U_ 471, U_ 472, U_ 473, U_ 474, U_ 475, U_ 476, U_ 477, U_ 478, U_ 479]) (fun U_ wx =>  wx = wk) ?_ ?_
                                      · intro J_ K_ hJ_ hK_
                                        by_cases hk3 : k < 3
                                        · rcases HM.out with ⟨-, rfl⟩ | ⟨-, rfl, -, -⟩
                                          · obtain rfl : bb = false := by
                                              cases bb
                                              · rfl
                                              · exact absurd (HBB.out.1 rfl).2 (by decide)
                                            go_wp2
                                            exact Met.intro (hJ_ _ _ (CutFr.of (by kernel_rfl) rfl))
                                          · obtain rfl : bb = true := HBB.out.2 ⟨hk3, rfl⟩
                                            go_wp2
                                            exact Met.intro (hJ_ _ _ (CutFr.of (by kernel_rfl) rfl))
                                        · obtain rfl : bb = false := by
                                            cases bb
                                            · rfl
                                            · exact absurd (HBB.out.1 rfl).1 hk3
                                          go_wp2
                                          exact Met.intro (hJ_ _ _ (CutFr.of (by kernel_rfl) rfl))
                                      · intro U_ wc hcut
                                        dsimp only
                                        subst hcut
                                        obtain ⟨wk, hwk⟩ : ∃ wk : World, wk = wc := ⟨_, rfl⟩
                                        subst hwk
                                        rcases bb with _ | _
                                        · skip
                                          as_aux_lemma =>
                                            have hb3r := HB16.out.trans (hb.mono HB16.out.size)
                                            go_wp2_with fail
                                            refine (i_StrongestCoat A n c l wk (HRL.out.below hb3r) HO.out).mono ?_
                                            intro e w17 h
                                            obtain ⟨hst, b17⟩ := h
                                            obtain ⟨sv, fs, rfl, HS⟩ : ∃ (sv fs : Int), e = .returned (.tuple #[.int .i64 sv, .int .i64 fs]) ∧ Hid ((l = [] ∧ sv = 0 ∧ fs = 3) ∨ (fs = 0 ∧ ∃ (b : Nat) (x : DCoat), sv = b ∧ l[b]? = some x ∧ ∀ y ∈ l, y.fCover ≤ x.fCover)) := by
                                              rcases hst with ⟨h1, rfl⟩ | ⟨b, x, h1, h2, rfl⟩
                                              · exact ⟨0, 3, rfl, Lib.hid (.inl ⟨h1, rfl, rfl⟩)⟩
                                              · exact ⟨b, 0, rfl, Lib.hid (.inr ⟨rfl, b, x, rfl, h1, h2⟩)⟩
                                            have HB17 := Lib.hid (hb3r.trans (b17.mono hb3r.size))
                                            clear hst b17 hb3r hb HBB
                                            as_aux_lemma =>
                                              go_upto_region 59 with fail
                                              refine wp_cut_U (fun U_ => [U_ 0, .slice A1 n1 c1, U_ 2, U_ 3, U_ 4, .slice A n c, .slice BG 3 3, .slice BT 3 3, U_ 8, U_ 9, U_ 10, U_ 11, U_ 12, U_ 13, U_ 14, U_ 15, U_ 16, U_ 17, U_ 18, U_ 19, U_ 20, U_ 21, U_ 22, U_ 23, U_ 24, U_ 25, U_ 26, U_ 27, U_ 28, U_ 29, U_ 30, U_ 31, U_ 32, U_ 33, .int .i64 sv, U_ 35, U_ 36, U_ 37, U_ 38, U_ 39, U_ 40, U_ 41, U_ 42, U_ 43, U_ 44, U_ 45, U_ 46, U_ 47, U_ 48, U_ 49, U_ 50, U_ 51, U_ 52, U_ 53, U_ 54, U_ 55, U_ 56, U_ 57, U_ 58, U_ 59, U_ 60, U_ 61, U_ 62, U_ 63, U_ 64, U_ 65, U_ 66, U_ 67, U_ 68, U_ 69, U_ 70, U_ 71, U_ 72, U_ 73, U_ 74, U_ 75, U_ 76, U_ 77, U_ 78, U_ 79, U_ 80, U_ 81, U_ 82, U_ 83, U_ 84, U_ 85, U_ 86, U_ 87, U_ 88, U_ 89, U_ 90, U_ 91, U_ 92, U_ 93, U_ 94, U_ 95, U_ 96, U_ 97, U_ 98, U_ 99, U_ 100, U_ 101, U_ 102, U_ 103, U_ 104, U_ 105, U_ 106, U_ 107, U_ 108, U_ 109, U_ 110, U_ 111, U_ 112, U_ 113, U_ 114, U_ 115, U_ 116, U_ 117, U_ 118, U_ 119, U_ 120, U_ 121, U_ 122, U_ 123, U_ 124, U_ 125, U_ 126, U_ 127, U_ 128, U_ 129, U_ 130, U_ 131, U_ 132, U_ 133, U_ 134, U_ 135, U_ 136, U_ 137, U_ 138, U_ 139, U_ 140, U_ 141, U_ 142, U_ 143, U_ 144, U_ 145, U_ 146, U_ 147, U_ 148, U_ 149, U_ 150, U_ 151, U_ 152, U_ 153, U_ 154, U_ 155, U_ 156, U_ 157, U_ 158, U_ 159, U_ 160, U_ 161, U_ 162, U_ 163, U_ 164, U_ 165, U_ 166, U_ 167, U_ 168, U_ 169, U_ 170, U_ 171, U_ 172, U_ 173, U_ 174, U_ 175, U_ 176, U_ 177, U_ 178, U_ 179, U_ 180, U_ 181, U_ 182, U_ 183, U_ 184, U_ 185, U_ 186, U_ 187, U_ 188, U_ 189, U_ 190, U_ 191, U_ 192, U_ 193, U_ 194, U_ 195, U_ 196, U_ 197, U_ 198, U_ 199, U_ 200, U_ 201, U_ 202, U_ 203, U_ 204, U_ 205, U_ 206, U_ 207, U_ 208, U_ 209, U_ 210, U_ 211, U_ 212, U_ 213, U_ 214, U_ 215, U_ 216, U_ 217, U_ 218, U_ 219, U_ 220, U_ 221, U_ 222, U_ 223, U_ 224, U_ 225, U_ 226, U_ 227, U_ 228, U_ 229, U_ 230, U_ 231, U_ 232, U_ 233, U_ 234, U_ 235, U_ 236, U_ 237, U_ 238, U_ 239, U_ 240, U_ 241, U_ 242, U_ 243, U_ 244, U_ 245, U_ 246, U_ 247, U_ 248, U_ 249, U_ 250, U_ 251, U_ 252, U_ 253, U_ 254, U_ 255, U_ 256, U_ 257, U_ 258, U_ 259, U_ 260, U_ 261, U_ 262, U_ 263, U_ 264, U_ 265, U_ 266, U_ 267, U_ 268, U_ 269, U_ 270, U_ 271, U_ 272, U_ 273, U_ 274, U_ 275, U_ 276, U_ 277, U_ 278, U_ 279, U_ 280, U_ 281, U_ 282, U_ 283, U_ 284, U_ 285, U_ 286, U_ 287, U_ 288, U_ 289, U_ 290, U_ 291, U_ 292, U_ 293, U_ 294, U_ 295, U_ 296, U_ 297, U_ 298, U_ 299, U_ 300, U_ 301, U_ 302, U_ 303, U_ 304, U_ 305, U_ 306, U_ 307, U_ 308, U_ 309, U_ 310, U_ 311, U_ 312, U_ 313, U_ 314, U_ 315, U_ 316, U_ 317, U_ 318, U_ 319, U_ 320, U_ 321, U_ 322, U_ 323, U_ 324, U_ 325, U_ 326, U_ 327, U_ 328, U_ 329, U_ 330, U_ 331, U_ 332, U_ 333, U_ 334, U_ 335, U_ 336, U_ 337, U_ 338, U_ 339, U_ 340, U_ 341, U_ 342, U_ 343, U_ 344, U_ 345, U_ 346, U_ 347, U_ 348, U_ 349, U_ 350, U_ 351, U_ 352, U_ 353, .bool false, U_ 355, U_ 356, U_ 357, U_ 358, U_ 359, U_ 360, U_ 361, U_ 362, U_ 363, U_ 364, U_ 365, U_ 366, U_ 367, U_ 368, U_ 369, U_ 370, U_ 371, U_ 372, U_ 373, U_ 374, U_ 375, U_ 376, U_ 377, U_ 378, U_ 379, U_ 380, U_ 381, U_ 382, U_ 383, U_ 384, U_ 385, U_ 386, U_ 387, U_ 388, U_ 389, U_ 390, U_ 391, U_ 392, U_ 393, U_ 394, U_ 395, U_ 396, U_ 397, U_ 398, U_ 399, U_ 400, U_ 401, U_ 402, U_ 403, U_ 404, U_ 405, U_ 406, U_ 407, U_ 408, U_ 409, U_ 410, U_ 411, U_ 412, U_ 413, U_ 414, U_ 415, U_ 416, U_ 417, U_ 418, U_ 419, U_ 420, U_ 421, U_ 422, U_ 423, U_ 424, U_ 425, U_ 426, U_ 427, U_ 428, U_ 429, U_ 430, U_ 431, U_ 432, U_ 433, U_ 434, U_ 435, U_ 436, U_ 437, U_ 438, U_ 439, U_ 440, U_ 441, U_ 442, U_ 443, U_ 444, U_ 445, U_ 446, U_ 447, U_ 448, U_ 449, U_ 450, U_ 451, U_ 452, U_ 453, U_ 454, U_ 455, U_ 456, U_ 457, U_ 458, U_ 459, U_ 460, U_ 461, U_ 462, U_ 463, U_ 464, U_ 465, U_ 466, U_ 467, U_ 468, U_ 469, U_ 470, U_ 471, U_ 472, U_ 473, U_ 474, U_ 475, U_ 476, U_ 477, U_ 478, U_ 479]) (fun U_ wx =>  wx = w17) ?_ ?_
                                              · intro J_ K_ hJ_ hK_
                                                rcases HS.out with ⟨h1, rfl, rfl⟩ | ⟨rfl, b, x, rfl, h1, -⟩
                                                · obtain rfl : n = 0 := by rw [← HRL.out.len, h1]; rfl
                                                  go_wp2
                                                  exact Met.intro (hJ_ _ _ (CutFr.of (by kernel_rfl) rfl))
                                                · have h2 : b < n := by rw [← HRL.out.len]; exact (List.getElem?_eq_some_iff.1 h1).1
                                                  have h3 : (0 : Int) < (n : Int) := by omega
                                                  have h4 : ¬ (b : Int) < 0 := by omega
                                                  have h5 : ¬ (n : Int) ≤ (b : Int) := by omega
                                                  go_wp2
                                                  exact Met.intro (hJ_ _ _ (CutFr.of (by kernel_rfl) rfl))
                                              · intro U_ wc hcut
                                                dsimp only
                                                subst hcut
                                                as_aux_lemma =>
                                                  go_wp2_with fail
                                                  refine (l_r8At A1 n1 c1 l1 60 40 _ (HRM.out.below HB17.out) hn1 (by omega) (by omega) (by omega)).mono ?_
                                                  rintro e w5 ⟨r, hr40, -, rfl, rfl⟩
                                                  obtain ⟨w17, hw17⟩ : ∃ w17 : World, w17 = wc := ⟨_, rfl⟩
                                                  subst hw17
                                                  go_wp2_with fail
                                                  refine wp_loop_U (fun U_ => [U_ 0, .slice A1 n1 c1, U_ 2, U_ 3, U_ 4, .slice A n c, .slice BG 3 3, .slice BT 3 3, U_ 8, U_ 9, U_ 10, U_ 11, U_ 12, U_ 13, U_ 14, U_ 15, U_ 16, U_ 17, U_ 18, U_ 19, U_ 20, U_ 21, U_ 22, U_ 23, U_ 24, U_ 25, U_ 26, U_ 27, U_ 28, U_ 29, U_ 30, U_ 31, U_ 32, U_ 33, .int .i64 sv, U_ 35, .int .i64 (10 * (r : Int)), U_ 37, U_ 38, U_ 39, U_ 40, U_ 41, U_ 42, U_ 43, U_ 44, U_ 45, U_ 46, U_ 47, U_ 48, U_ 49, U_ 50, U_ 51, U_ 52, U_ 53, U_ 54, U_ 55, U_ 56, U_ 57, U_ 58, U_ 59, U_ 60, U_ 61, U_ 62, U_ 63, U_ 64, U_ 65, U_ 66, U_ 67, U_ 68, U_ 69, U_ 70, U_ 71, U_ 72, U_ 73, U_ 74, U_ 75, U_ 76, U_ 77, U_ 78, U_ 79, U_ 80, U_ 81, U_ 82, U_ 83, U_ 84, U_ 85, U_ 86, U_ 87, U_ 88, U_ 89, U_ 90, U_ 91, U_ 92, U_ 93, U_ 94, U_ 95, U_ 96, U_ 97, U_ 98, U_ 99, U_ 100, U_ 101, U_ 102, U_ 103, U_ 104, U_ 105, U_ 106, U_ 107, U_ 108, U_ 109, U_ 110, U_ 111, U_ 112, U_ 113, U_ 114, U_ 115, U_ 116, U_ 117, U_ 118, U_ 119, U_ 120, U_ 121, U_ 122, U_ 123, U_ 124, U_ 125, U_ 126, U_ 127, U_ 128, U_ 129, U_ 130, U_ 131, U_ 132, U_ 133, U_ 134, U_ 135, U_ 136, U_ 137, U_ 138, U_ 139, U_ 140, U_ 141, U_ 142, U_ 143, U_ 144, U_ 145, U_ 146, U_ 147, U_ 148, U_ 149, U_ 150, U_ 151, U_ 152, U_ 153, U_ 154, U_ 155, U_ 156, U_ 157, U_ 158, U_ 159, U_ 160, U_ 161, U_ 162, U_ 163, U_ 164, U_ 165, U_ 166, U_ 167, U_ 168, U_ 169, U_ 170, U_ 171, U_ 172, U_ 173, U_ 174, U_ 175, U_ 176, U_ 177, U_ 178, U_ 179, U_ 180, U_ 181, U_ 182, U_ 183, U_ 184, U_ 185, U_ 186, U_ 187, U_ 188, U_ 189, U_ 190, U_ 191, U_ 192, U_ 193, U_ 194, U_ 195, U_ 196, U_ 197, U_ 198, U_ 199, U_ 200, U_ 201, U_ 202, U_ 203, U_ 204, U_ 205, U_ 206, U_ 207, U_ 208, U_ 209, U_ 210, U_ 211, U_ 212, U_ 213, U_ 214, U_ 215, U_ 216, U_ 217, U_ 218, U_ 219, U_ 220, U_ 221, U_ 222, U_ 223, U_ 224, U_ 225, U_ 226, U_ 227, U_ 228, U_ 229, U_ 230, U_ 231, U_ 232, U_ 233, U_ 234, U_ 235, U_ 236, U_ 237, U_ 238, U_ 239, U_ 240, U_ 241, U_ 242, U_ 243, U_ 244, U_ 245, U_ 246, U_ 247, U_ 248, U_ 249, U_ 250, U_ 251, U_ 252, U_ 253, U_ 254, U_ 255, U_ 256, U_ 257, U_ 258, U_ 259, U_ 260, U_ 261, U_ 262, U_ 263, U_ 264, U_ 265, U_ 266, U_ 267, U_ 268, U_ 269, U_ 270, U_ 271, U_ 272, U_ 273, U_ 274, U_ 275, U_ 276, U_ 277, U_ 278, U_ 279, U_ 280, U_ 281, U_ 282, U_ 283, U_ 284, U_ 285, U_ 286, U_ 287, U_ 288, U_ 289, U_ 290, U_ 291, U_ 292, U_ 293, U_ 294, U_ 295, U_ 296, U_ 297, U_ 298, U_ 299, U_ 300, U_ 301, U_ 302, U_ 303, U_ 304, U_ 305, U_ 306, U_ 307, U_ 308, U_ 309, U_ 310, U_ 311, U_ 312, U_ 313, U_ 314, U_ 315, U_ 316, U_ 317, U_ 318, U_ 319, U_ 320, U_ 321, U_ 322, U_ 323, U_ 324, U_ 325, U_ 326, U_ 327, U_ 328, U_ 329, U_ 330, U_ 331, U_ 332, U_ 333, U_ 334, U_ 335, U_ 336, U_ 337, U_ 338, U_ 339, U_ 340, U_ 341, U_ 342, U_ 343, U_ 344, U_ 345, U_ 346, U_ 347, U_ 348, U_ 349, U_ 350, U_ 351, U_ 352, U_ 353, U_ 354, U_ 355, U_ 356, U_ 357, U_ 358, U_ 359, U_ 360, U_ 361, U_ 362, U_ 363, U_ 364, U_ 365, U_ 366, U_ 367, U_ 368, U_ 369, U_ 370, U_ 371, U_ 372, U_ 373, U_ 374, U_ 375, U_ 376, U_ 377, U_ 378, U_ 379, U_ 380, U_ 381, U_ 382, U_ 383, U_ 384, U_ 385, U_ 386, U_ 387, U_ 388, U_ 389, U_ 390, U_ 391, U_ 392, U_ 393, U_ 394, U_ 395, U_ 396, U_ 397, U_ 398, U_ 399, U_ 400, U_ 401, U_ 402, U_ 403, U_ 404, U_ 405, U_ 406, U_ 407, U_ 408, U_ 409, U_ 410, U_ 411, U_ 412, U_ 413, U_ 414, U_ 415, U_ 416, U_ 417, U_ 418, U_ 419, U_ 420, U_ 421, U_ 422, U_ 423, U_ 424, U_ 425, U_ 426, U_ 427, U_ 428, U_ 429, U_ 430, U_ 431, U_ 432, U_ 433, U_ 434, U_ 435, U_ 436, U_ 437, U_ 438, U_ 439, U_ 440, U_ 441, U_ 442, U_ 443, U_ 444, U_ 445, U_ 446, U_ 447, U_ 448, U_ 449, U_ 450, U_ 451, U_ 452, U_ 453, U_ 454, U_ 455, U_ 456, U_ 457, U_ 458, U_ 459, U_ 460, U_ 461, U_ 462, U_ 463, U_ 464, U_ 465, U_ 466, U_ 467, U_ 468, U_ 469, U_ 470, U_ 471, U_ 472, U_ 473, U_ 474, U_ 475, U_ 476, U_ 477, U_ 478, U_ 479]) (fun U_ wr => ∃ i : Nat, i ≤ n ∧ U_ 37 = .int .i64 i ∧ Below w17.heap.size w17 wr) (fun U_ => n - (intOf (U_ 37)).toNat) (by kernel_rfl) ⟨0, Nat.zero_le _, rfl, Below.refl _ _⟩ ?_
                                                  intro U_ wr mmg_ hrel hmg_
                                                  dsimp only
                                                  as_aux_lemma =>
                                                    · skip
                                                      obtain ⟨i, hi_, e37_, hb⟩ := hrel
                                                      have hkg_ : n - (intOf (U_ 37)).toNat = mmg_ := hmg_.out
                                                      rw [e37_] at hkg_
                                                      have HMg_ : Hid (n - i = mmg_) := Lib.hid hkg_
                                                      clear hmg_ hkg_
                                                      rw [e37_]
                                                      clear e37_
                                                      by_cases hlt : i < n
                                                      · skip
                                                        as_aux_lemma =>
                                                          have hb3r := HB17.out.trans (hb.mono HB17.out.size)
                                                          obtain ⟨sb, xs, hsv, hxs, hmost⟩ : ∃ (sb : Nat) (xs : DCoat), sv = sb ∧ l[sb]? = some xs ∧ ∀ y ∈ l, y.fCover ≤ xs.fCover := by
                                                            rcases HS.out with ⟨h1, -, -⟩ | ⟨-, h1⟩
                                                            · have := HRL.out.len
                                                              rw [h1] at this
                                                              exact absurd hlt (by show ¬ i < n; rw [← this]; exact Nat.not_lt_zero _)
                                                            · exact h1
                                                          subst hsv
                                                          have hsb : sb < n := by rw [← HRL.out.len]; exact (List.getElem?_eq_some_iff.1 hxs).1
                                                          obtain ⟨bl, ol, x, A', n', c', rfl, hx, hcx, hru⟩ := (HRL.out.below hb3r).get hlt
                                                          obtain ⟨bl', ol', xs', As, ns, cs, hAs, hxs', hcs, -⟩ := (HRL.out.below hb3r).get hsb
                                                          cases hAs
                                                          rw [hxs] at hxs'
                                                          cases hxs'
                                                          have hx0 := hcx 0 _ rfl
                                                          have hx1 := hcx 1 _ rfl
                                                          have hx2 := hcx 2 _ rfl
                                                          have hx3 := hcx 3 _ rfl
                                                          have hs2 := hcs 2 _ rfl
                                                          simp only [Nat.add_zero] at hx0 hx1 hx2 hx3 hs2
                                                          have HOX := Lib.hid (HO.out.ok x (List.mem_of_getElem? hx))
                                                          obtain rfl : n' = 3 := by rw [← hru.1]; exact HOX.out.col.1
                                                          have HXX := Lib.hid hx
                                                          have HRU := Lib.hid hru
                                                          have HMC := Lib.hid (hmost x (List.mem_of_getElem? hx))
                                                          have HLW : Hid (∀ W, Below w17.heap.size w17 W → LibW W) := Lib.hid fun W h => hL.below (HB3.out.trans ((HB17.out.trans (h.mono HB17.out.size)).mono HB3.out.size))
                                                          have K5 : Hid (∀ W, LibW W → Calls Tryz.prog 16 #[.string (coatText x)] W fun e w' => ∃ (A2 : Option Addr) (n2 c2 : Nat), e = .returned (.tuple #[.agg #[.string x.fId, .int .i64 x.fDays, .int .i64 x.fCover, .slice A2 n2 c2], .bool true]) ∧ Below W.heap.size W w') := Lib.hid fun W h => by
                                                            refine (I_ReadCoat (coatText x) W (coat_text_le HOX.out) h).mono ?_
                                                            rintro e w' ⟨y, hy, A2, n2, c2, -, -, -, rfl, h2⟩
                                                            have h3 := hy.out
                                                            rw [(coat_some (coat_back HOX.out)).1] at h3
                                                            subst h3
                                                            rw [(coat_some (coat_back HOX.out)).2]
                                                            exact ⟨A2, n2, c2, rfl, h2⟩
                                                          have K4 : Hid (∀ W, LibW W → Below wr.heap.size wr W → Calls Tryz.prog 17 #[.agg #[.string x.fId, .int .i64 x.fDays, .int .i64 x.fCover, .slice A' 3 c']] W fun e w' => e = .returned (.string (coatText x)) ∧ Below W.heap.size W w') := Lib.hid fun W h hb => i_CoatText x A' 3 c' W (by have := nl_name_size HOX.out.name; omega) (HRU.out.below hb) (by decide) h
                                                          obtain ⟨TX, hTX⟩ : ∃ TX, coatText x = TX := ⟨_, rfl⟩
                                                          rw [hTX] at K4 K5
                                                          clear hTX hcx hcs hx hxs hmost hru
                                                          go_wp2_with fail
                                                          refine (K4.out _ (HLW.out _ hb) (Below.refl _ _)).mono ?_
                                                          rintro e w18 ⟨rfl, b18⟩
                                                          have hb18 := hb.trans (b18.mono hb.size)
                                                          go_wp2_with fail
                                                          refine (K5.out _ (HLW.out _ hb18)).mono ?_
                                                          rintro e w19 ⟨A2, n2, c2, rfl, b19⟩
                                                          have b1819 := b18.trans (b19.mono b18.size)
                                                          have R := range_new w19 #[.string x.fId, .int .i64 x.fDays, .int .i64 x.fCover, .slice A2 n2 c2] 36
                                                          have ba : Below w19.heap.size w19 (w19.alloc (.cells #[.string x.fId, .int .i64 x.fDays, .int .i64 x.fCover, .slice A2 n2 c2] 36)) := (Below.refl _ _).alloc (Nat.le_refl _) _
                                                          obtain ⟨W20, hW20⟩ : ∃ W, w19.alloc (.cells #[.string x.fId, .int .i64 x.fDays, .int .i64 x.fCover, .slice A2 n2 c2] 36) = W := ⟨_, rfl⟩
                                                          rw [hW20] at R ba
                                                          obtain ⟨bx, hbx⟩ : ∃ b, w19.heap.size = b := ⟨_, rfl⟩
                                                          rw [hbx] at R
                                                          have u0 := R 0 _ rfl
                                                          simp only [Nat.zero_add] at u0
                                                          have bw20 := b1819.trans (ba.mono b1819.size)
                                                          replace hx0 := cell_later bw20 hx0
                                                          replace hx1 := cell_later bw20 hx1
                                                          replace hx2 := cell_later bw20 hx2
                                                          replace hx3 := cell_later bw20 hx3
                                                          replace hs2 := cell_later bw20 hs2
                                                          have hb20 := hb.trans (bw20.mono hb.size)
                                                          have hb3s := HB17.out.trans (hb20.mono HB17.out.size)
                                                          have HRU20 := Lib.hid (HRU.out.below bw20)
                                                          clear R K4 K5 b18 b19 b1819 hb18 hb HRU ba bw20 hb3r
                                                          go_upto_region 66 with fail
                                                          try rw [hW20]
                                                          try rw [hbx]
                                                          clear hW20 hbx
                                                          as_aux_lemma =>
                                                            have hwt : 0 ≤ 10 * (r : Int) ∧ 10 * (r : Int) ≤ 390 := by omega
                                                            go_wp2_with fail
                                                            refine (i_FewestCoats x A' 3 c' BG 3 3 BT 3 3 g t (10 * (r : Int)) W20 HOX.out HRU20.out (HRG.out.below hb3s) (HRT.out.below hb3s) HG.out HT.out (by omega) (by omega)).mono ?_
                                                            rintro e w21 ⟨fv, fc, hf, rfl, b21⟩
                                                            have HF := Lib.hid hf
                                                            replace hx0 := cell_later b21 hx0
                                                            replace hx2 := cell_later b21 hx2
                                                            replace hs2 := cell_later b21 hs2
                                                            replace u0 := cell_later b21 u0
                                                            have hb21 := hb20.trans (b21.mono hb20.size)
                                                            have hb321 := hb3s.trans (b21.mono hb3s.size)
                                                            clear hf hx1 hx3 b21 hb20 hb3s
                                                            as_aux_lemma =>
                                                              go_upto_region 67 with fail
                                                              refine wp_cut_U (fun U_ => [U_ 0, .slice A1 n1 c1, U_ 2, U_ 3, U_ 4, .slice (some ⟨bl, ol, none⟩) n c, .slice BG 3 3, .slice BT 3 3, U_ 8, U_ 9, U_ 10, U_ 11, U_ 12, U_ 13, U_ 14, U_ 15, U_ 16, U_ 17, U_ 18, U_ 19, U_ 20, U_ 21, U_ 22, U_ 23, U_ 24, U_ 25, U_ 26, U_ 27, U_ 28, U_ 29, U_ 30, U_ 31, U_ 32, U_ 33, .int .i64 (sb : Nat), U_ 35, .int .i64 (10 * (r : Int)), .int .i64 i, U_ 38, U_ 39, .int .i64 fv, .int .i64 fc, U_ 42, U_ 43, U_ 44, U_ 45, U_ 46, U_ 47, U_ 48, U_ 49, U_ 50, U_ 51, U_ 52, U_ 53, U_ 54, U_ 55, U_ 56, U_ 57, U_ 58, U_ 59, U_ 60, U_ 61, U_ 62, U_ 63, U_ 64, U_ 65, U_ 66, U_ 67, U_ 68, U_ 69, U_ 70, U_ 71, U_ 72, U_ 73, U_ 74, U_ 75, U_ 76, U_ 77, U_ 78, U_ 79, U_ 80, U_ 81, U_ 82, U_ 83, U_ 84, U_ 85, U_ 86, U_ 87, U_ 88, U_ 89, U_ 90, U_ 91, U_ 92, U_ 93, U_ 94, U_ 95, U_ 96, U_ 97, U_ 98, U_ 99, U_ 100, U_ 101, U_ 102, U_ 103, U_ 104, U_ 105, U_ 106, U_ 107, U_ 108, U_ 109, U_ 110, U_ 111, U_ 112, U_ 113, U_ 114, U_ 115, U_ 116, U_ 117, U_ 118, U_ 119, U_ 120, U_ 121, U_ 122, U_ 123, U_ 124, U_ 125, U_ 126, U_ 127, U_ 128, U_ 129, U_ 130, U_ 131, U_ 132, U_ 133, U_ 134, U_ 135, U_ 136, U_ 137, U_ 138, U_ 139, U_ 140, U_ 141, U_ 142, U_ 143, U_ 144, U_ 145, U_ 146, U_ 147, U_ 148, U_ 149, U_ 150, U_ 151, U_ 152, U_ 153, U_ 154, U_ 155, U_ 156, U_ 157, U_ 158, U_ 159, U_ 160, U_ 161, U_ 162, U_ 163, U_ 164, U_ 165, U_ 166, U_ 167, U_ 168, U_ 169, U_ 170, U_ 171, U_ 172, U_ 173, U_ 174, U_ 175, U_ 176, U_ 177, U_ 178, U_ 179, U_ 180, U_ 181, U_ 182, U_ 183, U_ 184, U_ 185, U_ 186, U_ 187, U_ 188, U_ 189, U_ 190, U_ 191, U_ 192, U_ 193, U_ 194, U_ 195, U_ 196, U_ 197, U_ 198, U_ 199, U_ 200, U_ 201, U_ 202, U_ 203, U_ 204, U_ 205, U_ 206, U_ 207, U_ 208, U_ 209, U_ 210, U_ 211, U_ 212, U_ 213, U_ 214, U_ 215, U_ 216, U_ 217, U_ 218, U_ 219, U_ 220, U_ 221, U_ 222, U_ 223, U_ 224, U_ 225, U_ 226, U_ 227, U_ 228, U_ 229, U_ 230, U_ 231, U_ 232, U_ 233, U_ 234, U_ 235, U_ 236, U_ 237, U_ 238, U_ 239, U_ 240, U_ 241, U_ 242, U_ 243, U_ 244, U_ 245, U_ 246, U_ 247, U_ 248, U_ 249, U_ 250, U_ 251, U_ 252, U_ 253, U_ 254, U_ 255, U_ 256, U_ 257, U_ 258, U_ 259, U_ 260, U_ 261, U_ 262, U_ 263, U_ 264, U_ 265, U_ 266, U_ 267, U_ 268, U_ 269, U_ 270, U_ 271, U_ 272, U_ 273, U_ 274, U_ 275, U_ 276, U_ 277, U_ 278, U_ 279, U_ 280, U_ 281, U_ 282, U_ 283, U_ 284, U_ 285, U_ 286, U_ 287, U_ 288, U_ 289, U_ 290, U_ 291, U_ 292, U_ 293, U_ 294, U_ 295, U_ 296, U_ 297, U_ 298, U_ 299, U_ 300, U_ 301, U_ 302, U_ 303, U_ 304, U_ 305, U_ 306, U_ 307, U_ 308, U_ 309, U_ 310, U_ 311, U_ 312, U_ 313, U_ 314, U_ 315, U_ 316, U_ 317, U_ 318, U_ 319, U_ 320, U_ 321, U_ 322, U_ 323, U_ 324, U_ 325, U_ 326, U_ 327, U_ 328, U_ 329, U_ 330, U_ 331, U_ 332, U_ 333, U_ 334, U_ 335, U_ 336, U_ 337, U_ 338, U_ 339, U_ 340, U_ 341, U_ 342, U_ 343, U_ 344, U_ 345, U_ 346, U_ 347, U_ 348, U_ 349, U_ 350, U_ 351, U_ 352, U_ 353, U_ 354, U_ 355, U_ 356, U_ 357, U_ 358, U_ 359, U_ 360, U_ 361, U_ 362, U_ 363, U_ 364, U_ 365, U_ 366, U_ 367, U_ 368, U_ 369, U_ 370, U_ 371, U_ 372, U_ 373, U_ 374, U_ 375, U_ 376, U_ 377, U_ 378, U_ 379, U_ 380, U_ 381, U_ 382, U_ 383, U_ 384, U_ 385, U_ 386, U_ 387, U_ 388, U_ 389, U_ 390, U_ 391, U_ 392, U_ 393, U_ 394, U_ 395, U_ 396, U_ 397, U_ 398, U_ 399, U_ 400, U_ 401, U_ 402, U_ 403, U_ 404, U_ 405, U_ 406, U_ 407, U_ 408, U_ 409, U_ 410, U_ 411, U_ 412, U_ 413, U_ 414, U_ 415, U_ 416, U_ 417, U_ 418, U_ 419, U_ 420, U_ 421, U_ 422, U_ 423, U_ 424, U_ 425, U_ 426, U_ 427, .bool false, U_ 429, U_ 430, U_ 431, U_ 432, U_ 433, U_ 434, U_ 435, U_ 436, U_ 437, U_ 438, U_ 439, U_ 440, U_ 441, U_ 442, U_ 443, U_ 444, U_ 445, U_ 446, U_ 447, U_ 448, U_ 449, U_ 450, U_ 451, U_ 452, U_ 453, U_ 454, U_ 455, U_ 456, U_ 457, U_ 458, U_ 459, U_ 460, U_ 461, U_ 462, U_ 463, U_ 464, U_ 465, U_ 466, U_ 467, U_ 468, U_ 469, U_ 470, U_ 471, U_ 472, U_ 473, U_ 474, U_ 475, U_ 476, U_ 477, U_ 478, U_ 479]) (fun U_ wx =>  Below w21.heap.size w21 wx) ?_ ?_
                                                              · intro J_ K_ hJ_ hK_
                                                                have hmc := HMC.out
                                                                have t1 : ¬ xs.fCover < x.fCover := by omega
                                                                have d1 := decide_eq_false t1
                                                                have q1 : (x.fId.toList == x.fId.toList) = true := beq_self_eq_true _
                                                                rcases HF.out.cases with ⟨rfl, N, rfl, hN, -, -⟩ | ⟨rfl, rfl, -⟩
                                                                · have t2 : ¬ (10 : Int) < (N : Int) := by omega
                                                                  have d2 := decide_eq_false t2
                                                                  have t3 : ¬ (N : Int) < 0 := by omega
                                                                  have d3 := decide_eq_false t3
                                                                  go_quiet (fail)
                                                                  go_wp2
                                                                  exact Met.intro (hJ_ _ _ (CutFr.of (by kernel_rfl) (below_drewN (Below.refl _ _) _)))
                                                                · skip
                                                                  go_quiet (fail)
                                                                  go_wp2
                                                                  exact Met.intro (hJ_ _ _ (CutFr.of (by kernel_rfl) (below_drewN (Below.refl _ _) _)))
                                                              · intro U_ wc hcut
                                                                dsimp only
                                                                have hb3c := hb321.trans (hcut.mono hb321.size)
                                                                have hbc := hb21.trans (hcut.mono hb21.size)
                                                                have hG0 : GL intE 2 wc.heap.size (wc.alloc (.cells #[] 2)) (.slice (some ⟨wc.heap.size, 0, none⟩) 0 0) [] := GL.mk0 (Nat.le_refl _)
                                                                have hbN : Below wc.heap.size wc (wc.alloc (.cells #[] 2)) := (Below.refl _ _).alloc (Nat.le_refl _) _
                                                                have hrg := (HRG.out.below hb3c).below hbN
                                                                have hsN := hbN.size
                                                                clear hx0 hx2 hs2 u0 hcut hb21 hb321
                                                                as_aux_lemma =>
                                                                  go_wp2_with (at_builtin; refine wpList_pushL intE rfl _ _ 26 rfl wc.heap.size 2 i0 _ 8 Tryz.underlying26 hi HZ.out.1 HZ.out.2.1 HZ.out.2.2 rfl (.slice (some ⟨wc.heap.size, 0, none⟩) 0 0) [] g rfl hG0 BG 3 3 rfl hrg.1 (Rd.noneLen hrg) (Rd.src hrg) 3 (by simp) g (by simp) (by omega) (by decide) wc hbN hsN ?_; intro B0 q0 w23 hgl23 hcap23 hb23 hs23)
                                                                  have HL0 : Hid (Rd intE w23 B0 3 (iterO x g 0)) := Lib.hid hgl23.rd
                                                                  have HB23 := Lib.hid (hb3c.trans (hb23.mono hb3c.size))
                                                                  have hbw := hbc.trans (hb23.mono hbc.size)
                                                                  clear hgl23 hcap23 hb23 hs23 hG0 hbN hrg hsN hbc hb3c
                                                                  refine wp_loop_U (fun U_ => [U_ 0, .slice A1 n1 c1, U_ 2, U_ 3, U_ 4, .slice (some ⟨bl, ol, none⟩) n c, .slice BG 3 3, .slice BT 3 3, U_ 8, U_ 9, U_ 10, U_ 11, U_ 12, U_ 13, U_ 14, U_ 15, U_ 16, U_ 17, U_ 18, U_ 19, U_ 20, U_ 21, U_ 22, U_ 23, U_ 24, U_ 25, U_ 26, U_ 27, U_ 28, U_ 29, U_ 30, U_ 31, U_ 32, U_ 33, .int .i64 (sb : Nat), U_ 35, .int .i64 (10 * (r : Int)), .int .i64 i, U_ 38, U_ 39, .int .i64 fv, .int .i64 fc, U_ 42, U_ 43, U_ 44, U_ 45, U_ 46, U_ 47, U_ 48, U_ 49, U_ 50, U_ 51, U_ 52, U_ 53, U_ 54, U_ 55, U_ 56, U_ 57, U_ 58, U_ 59, U_ 60, U_ 61, U_ 62, U_ 63, U_ 64, U_ 65, U_ 66, U_ 67, U_ 68, U_ 69, U_ 70, U_ 71, U_ 72, U_ 73, U_ 74, U_ 75, U_ 76, U_ 77, U_ 78, U_ 79, U_ 80, U_ 81, U_ 82, U_ 83, U_ 84, U_ 85, U_ 86, U_ 87, U_ 88, U_ 89, U_ 90, U_ 91, U_ 92, U_ 93, U_ 94, U_ 95, U_ 96, U_ 97, U_ 98, U_ 99, U_ 100, U_ 101, U_ 102, U_ 103, U_ 104, U_ 105, U_ 106, U_ 107, U_ 108, U_ 109, U_ 110, U_ 111, U_ 112, U_ 113, U_ 114, U_ 115, U_ 116, U_ 117, U_ 118, U_ 119, U_ 120, U_ 121, U_ 122, U_ 123, U_ 124, U_ 125, U_ 126, U_ 127, U_ 128, U_ 129, U_ 130, U_ 131, U_ 132, U_ 133, U_ 134, U_ 135, U_ 136, U_ 137, U_ 138, U_ 139, U_ 140, U_ 141, U_ 142, U_ 143, U_ 144, U_ 145, U_ 146, U_ 147, U_ 148, U_ 149, U_ 150, U_ 151, U_ 152, U_ 153, U_ 154, U_ 155, U_ 156, U_ 157, U_ 158, U_ 159, U_ 160, U_ 161, U_ 162, U_ 163, U_ 164, U_ 165, U_ 166, U_ 167, U_ 168, U_ 169, U_ 170, U_ 171, U_ 172, U_ 173, U_ 174, U_ 175, U_ 176, U_ 177, U_ 178, U_ 179, U_ 180, U_ 181, U_ 182, U_ 183, U_ 184, U_ 185, U_ 186, U_ 187, U_ 188, U_ 189, U_ 190, U_ 191, U_ 192, U_ 193, U_ 194, U_ 195, U_ 196, U_ 197, U_ 198, U_ 199, U_ 200, U_ 201, U_ 202, U_ 203, U_ 204, U_ 205, U_ 206, U_ 207, U_ 208, U_ 209, U_ 210, U_ 211, U_ 212, U_ 213, U_ 214, U_ 215, U_ 216, U_ 217, U_ 218, U_ 219, U_ 220, U_ 221, U_ 222, U_ 223, U_ 224, U_ 225, U_ 226, U_ 227, U_ 228, U_ 229, U_ 230, U_ 231, U_ 232, U_ 233, U_ 234, U_ 235, U_ 236, U_ 237, U_ 238, U_ 239, U_ 240, U_ 241, U_ 242, U_ 243, U_ 244, U_ 245, U_ 246, U_ 247, U_ 248, U_ 249, U_ 250, U_ 251, U_ 252, U_ 253, U_ 254, U_ 255, U_ 256, U_ 257, U_ 258, U_ 259, U_ 260, U_ 261, U_ 262, U_ 263, U_ 264, U_ 265, U_ 266, U_ 267, U_ 268, U_ 269, U_ 270, U_ 271, U_ 272, U_ 273, U_ 274, U_ 275, U_ 276, U_ 277, U_ 278, U_ 279, U_ 280, U_ 281, U_ 282, U_ 283, U_ 284, U_ 285, U_ 286, U_ 287, U_ 288, U_ 289, U_ 290, U_ 291, U_ 292, U_ 293, U_ 294, U_ 295, U_ 296, U_ 297, U_ 298, U_ 299, U_ 300, U_ 301, U_ 302, U_ 303, U_ 304, U_ 305, U_ 306, U_ 307, U_ 308, U_ 309, U_ 310, U_ 311, U_ 312, U_ 313, U_ 314, U_ 315, U_ 316, U_ 317, U_ 318, U_ 319, U_ 320, U_ 321, U_ 322, U_ 323, U_ 324, U_ 325, U_ 326, U_ 327, U_ 328, U_ 329, U_ 330, U_ 331, U_ 332, U_ 333, U_ 334, U_ 335, U_ 336, U_ 337, U_ 338, U_ 339, U_ 340, U_ 341, U_ 342, U_ 343, U_ 344, U_ 345, U_ 346, U_ 347, U_ 348, U_ 349, U_ 350, U_ 351, U_ 352, U_ 353, U_ 354, U_ 355, U_ 356, U_ 357, U_ 358, U_ 359, U_ 360, U_ 361, U_ 362, U_ 363, U_ 364, U_ 365, U_ 366, U_ 367, U_ 368, U_ 369, U_ 370, U_ 371, U_ 372, U_ 373, U_ 374, U_ 375, U_ 376, U_ 377, U_ 378, U_ 379, U_ 380, U_ 381, U_ 382, U_ 383, U_ 384, U_ 385, U_ 386, U_ 387, U_ 388, U_ 389, U_ 390, U_ 391, U_ 392, U_ 393, U_ 394, U_ 395, U_ 396, U_ 397, U_ 398, U_ 399, U_ 400, U_ 401, U_ 402, U_ 403, U_ 404, U_ 405, U_ 406, U_ 407, U_ 408, U_ 409, U_ 410, U_ 411, U_ 412, U_ 413, U_ 414, U_ 415, U_ 416, U_ 417, U_ 418, U_ 419, U_ 420, U_ 421, U_ 422, U_ 423, U_ 424, U_ 425, U_ 426, U_ 427, U_ 428, U_ 429, U_ 430, U_ 431, U_ 432, U_ 433, U_ 434, U_ 435, U_ 436, U_ 437, U_ 438, U_ 439, U_ 440, U_ 441, U_ 442, U_ 443, U_ 444, U_ 445, U_ 446, U_ 447, U_ 448, U_ 449, U_ 450, U_ 451, U_ 452, U_ 453, U_ 454, U_ 455, U_ 456, U_ 457, U_ 458, U_ 459, U_ 460, U_ 461, U_ 462, U_ 463, U_ 464, U_ 465, U_ 466, U_ 467, U_ 468, U_ 469, U_ 470, U_ 471, U_ 472, U_ 473, U_ 474, U_ 475, U_ 476, U_ 477, U_ 478, U_ 479]) (fun U_ wr => ∃ (j : Nat) (BL : Option Addr) (qL : Nat), j ≤ 11 ∧ U_ 43 = .int .i64 j ∧ U_ 42 = .slice BL 3 qL ∧ Hid (Rd intE wr BL 3 (iterO x g j)) ∧ Below w23.heap.size w23 wr) (fun U_ => 11 - (intOf (U_ 43)).toNat) (by kernel_rfl) ⟨0, B0, q0, by omega, rfl, rfl, HL0, Below.refl _ _⟩ ?_
                                                                  intro U_ wr mmh_ hrel hmh_
                                                                  dsimp only
                                                                  as_aux_lemma =>
                                                                    · skip
                                                                      obtain ⟨j, BL, qL, hj, e43_, e42_, HRB, hbj⟩ := hrel
                                                                      have hkh_ : 11 - (intOf (U_ 43)).toNat = mmh_ := hmh_.out
                                                                      rw [e43_] at hkh_
                                                                      have HMh_ : Hid (11 - j = mmh_) := Lib.hid hkh_
                                                                      clear hmh_ hkh_
                                                                      rw [e43_, e42_]
                                                                      clear e43_ e42_
                                                                      by_cases hlt : j ≤ 10
                                                                      · skip
                                                                        as_aux_lemma =>
                                                                          have hb3j := HB23.out.trans (hbj.mono HB23.out.size)
                                                                          have HC := Lib.hid (iter_col HOX.out HG.out j)
                                                                          have HGI : Hid (∀ G, gapL (iterO x g j) t = G → (fc = 0 ∧ (∃ N : Nat, fv = N ∧ N ≤ 10 ∧ (G ≤ (10 * (r : Int)) → N ≤ j) ∧ ((10 * (r : Int)) < G → N ≠ j))) ∨ (fc = 3 ∧ (10 * (r : Int)) < G)) := Lib.hid fun G hG => by
                                                                            rcases HF.out.cases with ⟨h1, N, h2, h3, h4, h5⟩ | ⟨h1, h2, h3⟩
                                                                            · refine .inl ⟨h1, N, h2, h3, fun h => ?_, fun h e => ?_⟩
                                                                              · rcases Nat.lt_or_ge j N with h6 | h6
                                                                                · have := h5 j h6; omega
                                                                                · exact h6
                                                                              · subst e; omega
                                                                            · exact .inr ⟨h1, by have := h3 j hlt; omega⟩
                                                                          go_wp2_with fail
                                                                          refine (s_ColourGap_yes BL 3 qL BT 3 3 (iterO x g j) t wr HRB.out (HRT.out.below hb3j) HC.out HT.out).mono ?_
                                                                          rintro e w24 ⟨rfl, b24⟩
                                                                          obtain ⟨G, hG⟩ : ∃ G, gapL (iterO x g j) t = G := ⟨_, rfl⟩
                                                                          have HGG := HGI.out G hG
                                                                          rw [hG]
                                                                          have hgr := gapL_range HC.out HT.out
                                                                          rw [hG] at hgr
                                                                          have HRB2 := Lib.hid (HRB.out.below b24)
                                                                          have hb3k := hb3j.trans (b24.mono hb3j.size)
                                                                          have hbk := hbj.trans (b24.mono hbj.size)
                                                                          clear hG b24 HRB HGI hbj hb3j
                                                                          as_aux_lemma =>
                                                                            go_upto_region 74 with fail
                                                                            refine wp_cut_U (fun U_ => [U_ 0, .slice A1 n1 c1, U_ 2, U_ 3, U_ 4, .slice (some ⟨bl, ol, none⟩) n c, .slice BG 3 3, .slice BT 3 3, U_ 8, U_ 9, U_ 10, U_ 11, U_ 12, U_ 13, U_ 14, U_ 15, U_ 16, U_ 17, U_ 18, U_ 19, U_ 20, U_ 21, U_ 22, U_ 23, U_ 24, U_ 25, U_ 26, U_ 27, U_ 28, U_ 29, U_ 30, U_ 31, U_ 32, U_ 33, .int .i64 (sb : Nat), U_ 35, .int .i64 (10 * (r : Int)), .int .i64 i, U_ 38, U_ 39, .int .i64 fv, .int .i64 fc, .slice BL 3 qL, .int .i64 j, U_ 44, U_ 45, U_ 46, U_ 47, U_ 48, U_ 49, U_ 50, U_ 51, U_ 52, U_ 53, U_ 54, U_ 55, U_ 56, U_ 57, U_ 58, U_ 59, U_ 60, U_ 61, U_ 62, U_ 63, U_ 64, U_ 65, U_ 66, U_ 67, U_ 68, U_ 69, U_ 70, U_ 71, U_ 72, U_ 73, U_ 74, U_ 75, U_ 76, U_ 77, U_ 78, U_ 79, U_ 80, U_ 81, U_ 82, U_ 83, U_ 84, U_ 85, U_ 86, U_ 87, U_ 88, U_ 89, U_ 90, U_ 91, U_ 92, U_ 93, U_ 94, U_ 95, U_ 96, U_ 97, U_ 98, U_ 99, U_ 100, U_ 101, U_ 102, U_ 103, U_ 104, U_ 105, U_ 106, U_ 107, U_ 108, U_ 109, U_ 110, U_ 111, U_ 112, U_ 113, U_ 114, U_ 115, U_ 116, U_ 117, U_ 118, U_ 119, U_ 120, U_ 121, U_ 122, U_ 123, U_ 124, U_ 125, U_ 126, U_ 127, U_ 128, U_ 129, U_ 130, U_ 131, U_ 132, U_ 133, U_ 134, U_ 135, U_ 136, U_ 137, U_ 138, U_ 139, U_ 140, U_ 141, U_ 142, U_ 143, U_ 144, U_ 145, U_ 146, U_ 147, U_ 148, U_ 149, U_ 150, U_ 151, U_ 152, U_ 153, U_ 154, U_ 155, U_ 156, U_ 157, U_ 158, U_ 159, U_ 160, U_ 161, U_ 162, U_ 163, U_ 164, U_ 165, U_ 166, U_ 167, U_ 168, U_ 169, U_ 170, U_ 171, U_ 172, U_ 173, U_ 174, U_ 175, U_ 176, U_ 177, U_ 178, U_ 179, U_ 180, U_ 181, U_ 182, U_ 183, U_ 184, U_ 185, U_ 186, U_ 187, U_ 188, U_ 189, U_ 190, U_ 191, U_ 192, U_ 193, U_ 194, U_ 195, U_ 196, U_ 197, U_ 198, U_ 199, U_ 200, U_ 201, U_ 202, U_ 203, U_ 204, U_ 205, U_ 206, U_ 207, U_ 208, U_ 209, U_ 210, U_ 211, U_ 212, U_ 213, U_ 214, U_ 215, U_ 216, U_ 217, U_ 218, U_ 219, U_ 220, U_ 221, U_ 222, U_ 223, U_ 224, U_ 225, U_ 226, U_ 227, U_ 228, U_ 229, U_ 230, U_ 231, U_ 232, U_ 233, U_ 234, U_ 235, U_ 236, U_ 237, U_ 238, U_ 239, U_ 240, U_ 241, U_ 242, U_ 243, U_ 244, U_ 245, U_ 246, U_ 247, U_ 248, U_ 249, U_ 250, U_ 251, U_ 252, U_ 253, U_ 254, U_ 255, U_ 256, U_ 257, U_ 258, U_ 259, U_ 260, U_ 261, U_ 262, U_ 263, U_ 264, U_ 265, U_ 266, U_ 267, U_ 268, U_ 269, U_ 270, U_ 271, U_ 272, U_ 273, U_ 274, U_ 275, U_ 276, U_ 277, U_ 278, U_ 279, U_ 280, U_ 281, U_ 282, U_ 283, U_ 284, U_ 285, U_ 286, U_ 287, U_ 288, U_ 289, U_ 290, U_ 291, U_ 292, U_ 293, U_ 294, U_ 295, U_ 296, U_ 297, U_ 298, U_ 299, U_ 300, U_ 301, U_ 302, U_ 303, U_ 304, U_ 305, U_ 306, U_ 307, U_ 308, U_ 309, U_ 310, U_ 311, U_ 312, U_ 313, U_ 314, U_ 315, U_ 316, U_ 317, U_ 318, U_ 319, U_ 320, U_ 321, U_ 322, U_ 323, U_ 324, U_ 325, U_ 326, U_ 327, U_ 328, U_ 329, U_ 330, U_ 331, U_ 332, U_ 333, U_ 334, U_ 335, U_ 336, U_ 337, U_ 338, U_ 339, U_ 340, U_ 341, U_ 342, U_ 343, U_ 344, U_ 345, U_ 346, U_ 347, U_ 348, U_ 349, U_ 350, U_ 351, U_ 352, U_ 353, U_ 354, U_ 355, U_ 356, U_ 357, U_ 358, U_ 359, U_ 360, U_ 361, U_ 362, U_ 363, U_ 364, U_ 365, U_ 366, U_ 367, U_ 368, U_ 369, U_ 370, U_ 371, U_ 372, U_ 373, U_ 374, U_ 375, U_ 376, U_ 377, U_ 378, U_ 379, U_ 380, U_ 381, U_ 382, U_ 383, U_ 384, U_ 385, U_ 386, U_ 387, U_ 388, U_ 389, U_ 390, U_ 391, U_ 392, U_ 393, U_ 394, U_ 395, U_ 396, U_ 397, U_ 398, U_ 399, U_ 400, U_ 401, U_ 402, U_ 403, U_ 404, U_ 405, U_ 406, U_ 407, U_ 408, U_ 409, U_ 410, U_ 411, U_ 412, U_ 413, U_ 414, U_ 415, U_ 416, U_ 417, U_ 418, U_ 419, U_ 420, U_ 421, U_ 422, U_ 423, U_ 424, U_ 425, U_ 426, U_ 427, U_ 428, U_ 429, U_ 430, U_ 431, U_ 432, U_ 433, U_ 434, U_ 435, U_ 436, U_ 437, U_ 438, U_ 439, U_ 440, U_ 441, U_ 442, U_ 443, U_ 444, U_ 445, U_ 446, U_ 447, U_ 448, U_ 449, U_ 450, U_ 451, U_ 452, U_ 453, U_ 454, U_ 455, U_ 456, U_ 457, U_ 458, U_ 459, U_ 460, U_ 461, U_ 462, U_ 463, U_ 464, U_ 465, U_ 466, U_ 467, U_ 468, U_ 469, U_ 470, .bool false, U_ 472, U_ 473, U_ 474, U_ 475, U_ 476, U_ 477, U_ 478, U_ 479]) (fun U_ wx =>  wx = w24) ?_ ?_
                                                                            · intro J_ K_ hJ_ hK_
                                                                              rcases HGG with ⟨rfl, N, rfl, hN, h1, h2⟩ | ⟨rfl, h1⟩
                                                                              · by_cases hle : G ≤ (10 * (r : Int))
                                                                                · have h3 := h1 hle
                                                                                  have h4 : ¬ (j : Int) < (N : Int) := by omega
                                                                                  have h5 : ¬ (10 * (r : Int)) < G := by omega
                                                                                  clear h1 h2
                                                                                  go_wp2
                                                                                  exact Met.intro (hJ_ _ _ (CutFr.of (by kernel_rfl) rfl))
                                                                                · have h3 : (10 * (r : Int)) < G := by omega
                                                                                  have h4 := h2 h3
                                                                                  have h5 : ((N : Int) == (j : Int)) = false := by rw [beq_eq_false_iff_ne]; omega
                                                                                  have h6 : ¬ (N : Int) = (j : Int) := by omega
                                                                                  clear h1 h2
                                                                                  go_wp2
                                                                                  exact Met.intro (hJ_ _ _ (CutFr.of (by kernel_rfl) rfl))
                                                                              · have h3 : ¬ G ≤ (10 * (r : Int)) := by omega
                                                                                go_wp2
                                                                                exact Met.intro (hJ_ _ _ (CutFr.of (by kernel_rfl) rfl))
                                                                            · intro U_ wc hcut
                                                                              dsimp only
                                                                              subst hcut
                                                                              clear HGG
                                                                              as_aux_lemma =>
                                                                                have hba : Below wc.heap.size wc (wc.alloc (.cells #[.int .i64 (i : Int)] 2)) := (Below.refl _ _).alloc (Nat.le_refl _) _
                                                                                have hr1 : Rd intE (wc.alloc (.cells #[.int .i64 (i : Int)] 2)) (some ⟨wc.heap.size, 0, none⟩) 1 [(i : Int)] := Rd.oneNew
                                                                                have hb3L := hb3k.trans (hba.mono hb3k.size)
                                                                                go_wp2_with fail
                                                                                refine (s_ColourAfter_yes (some ⟨bl, ol, none⟩) n c l (some ⟨wc.heap.size, 0, none⟩) 1 1 [(i : Int)] BL 3 qL (iterO x g j) _ (HRL.out.below hb3L) hr1 (HRB2.out.below hba) HO.out (Ord5.one HXX.out) HC.out).mono ?_
                                                                                rintro e w26 ⟨B2, q2, rfl, h2, b26⟩
                                                                                rw [afterL_one, coatAt_get HXX.out] at h2
                                                                                have H2 : Hid (Rd intE w26 B2 3 (iterO x g (j + 1))) := Lib.hid h2
                                                                                have hbF := hbk.trans ((hba.trans (b26.mono hba.size)).mono hbk.size)
                                                                                clear h2 b26 hr1 hba hb3L hbk hb3k HRB2
                                                                                go_wp2
                                                                                exact LoopFr.of (by kernel_rfl) ⟨j + 1, B2, q2, by omega, rfl, rfl, H2, hbF⟩ (by have h := HMh_.out; show 11 - (j + 1) < mmh_; omega)
                                                                      · skip
                                                                        as_aux_lemma =>
                                                                          obtain rfl : j = 11 := by omega
                                                                          have hbF := hbw.trans (hbj.mono hbw.size)
                                                                          go_wp2
                                                                          exact LoopFr.of (by kernel_rfl) ⟨i + 1, by omega, rfl, hbF⟩ (by have h := HMg_.out; show n - (i + 1) < mmg_; omega)
                                                      · skip
                                                        as_aux_lemma =>
                                                          have hbF := HB3.out.trans ((HB17.out.trans (hb.mono HB17.out.size)).mono HB3.out.size)
                                                          go_wp2
                                                          go_ret
                                                          exact ⟨rfl, hbF⟩
                                        · skip
                                          as_aux_lemma =>
                                            obtain ⟨hk3, rfl⟩ := HBB.out.1 rfl
                                            obtain ⟨hsp, rfl, hrm⟩ : 0 < p.sum ∧ mM = 3 ∧ Rd intE w16 BM 3 (mixR p l) := by
                                              rcases HM.out with ⟨-, h1⟩ | ⟨h1, -, h2, h3⟩
                                              · exact absurd h1 (by decide)
                                              · exact ⟨h1, h2, h3⟩
                                            have HSP := Lib.hid hsp
                                            have HRMX := Lib.hid (hrm.below hb)
                                            have HBW := Lib.hid hb
                                            have HBK := Lib.hid (HB16.out.trans (hb.mono HB16.out.size))
                                            clear hsp hrm hb HM HBB
                                            go_wp2_with fail
                                            refine wp_loop_U (fun U_ => [U_ 0, .slice A1 n1 c1, U_ 2, U_ 3, U_ 4, .slice A n c, .slice BG 3 3, .slice BT 3 3, U_ 8, U_ 9, U_ 10, U_ 11, U_ 12, U_ 13, U_ 14, U_ 15, U_ 16, U_ 17, U_ 18, U_ 19, U_ 20, U_ 21, U_ 22, U_ 23, U_ 24, U_ 25, U_ 26, U_ 27, .slice BM 3 qM, .int .i64 0, .int .i64 k, U_ 31, U_ 32, U_ 33, U_ 34, U_ 35, U_ 36, U_ 37, U_ 38, U_ 39, U_ 40, U_ 41, U_ 42, U_ 43, U_ 44, U_ 45, U_ 46, U_ 47, U_ 48, U_ 49, U_ 50, U_ 51, U_ 52, U_ 53, U_ 54, U_ 55, U_ 56, U_ 57, U_ 58, U_ 59, U_ 60, U_ 61, U_ 62, U_ 63, U_ 64, U_ 65, U_ 66, U_ 67, U_ 68, U_ 69, U_ 70, U_ 71, U_ 72, U_ 73, U_ 74, U_ 75, U_ 76, U_ 77, U_ 78, U_ 79, U_ 80, U_ 81, U_ 82, U_ 83, U_ 84, U_ 85, U_ 86, U_ 87, U_ 88, U_ 89, U_ 90, U_ 91, U_ 92, U_ 93, U_ 94, U_ 95, U_ 96, U_ 97, U_ 98, U_ 99, U_ 100, U_ 101, U_ 102, U_ 103, U_ 104, U_ 105, U_ 106, U_ 107, U_ 108, U_ 109, U_ 110, U_ 111, U_ 112, U_ 113, U_ 114, U_ 115, U_ 116, U_ 117, U_ 118, U_ 119, U_ 120, U_ 121, U_ 122, U_ 123, U_ 124, U_ 125, U_ 126, U_ 127, U_ 128, U_ 129, U_ 130, U_ 131, U_ 132, U_ 133, U_ 134, U_ 135, U_ 136, U_ 137, U_ 138, U_ 139, U_ 140, U_ 141, U_ 142, U_ 143, U_ 144, U_ 145, U_ 146, U_ 147, U_ 148, U_ 149, U_ 150, U_ 151, U_ 152, U_ 153, U_ 154, U_ 155, U_ 156, U_ 157, U_ 158, U_ 159, U_ 160, U_ 161, U_ 162, U_ 163, U_ 164, U_ 165, U_ 166, U_ 167, U_ 168, U_ 169, U_ 170, U_ 171, U_ 172, U_ 173, U_ 174, U_ 175, U_ 176, U_ 177, U_ 178, U_ 179, U_ 180, U_ 181, U_ 182, U_ 183, U_ 184, U_ 185, U_ 186, U_ 187, U_ 188, U_ 189, U_ 190, U_ 191, U_ 192, U_ 193, U_ 194, U_ 195, U_ 196, U_ 197, U_ 198, U_ 199, U_ 200, U_ 201, U_ 202, U_ 203, U_ 204, U_ 205, U_ 206, U_ 207, U_ 208, U_ 209, U_ 210, U_ 211, U_ 212, U_ 213, U_ 214, U_ 215, U_ 216, U_ 217, U_ 218, U_ 219, U_ 220, U_ 221, U_ 222, U_ 223, U_ 224, U_ 225, U_ 226, U_ 227, U_ 228, U_ 229, U_ 230, U_ 231, U_ 232, U_ 233, U_ 234, U_ 235, U_ 236, U_ 237, U_ 238, U_ 239, U_ 240, U_ 241, U_ 242, U_ 243, U_ 244, U_ 245, U_ 246, U_ 247, U_ 248, U_ 249, U_ 250, U_ 251, U_ 252, U_ 253, U_ 254, U_ 255, U_ 256, U_ 257, U_ 258, U_ 259, U_ 260, U_ 261, U_ 262, U_ 263, U_ 264, U_ 265, U_ 266, U_ 267, U_ 268, U_ 269, U_ 270, U_ 271, U_ 272, U_ 273, U_ 274, U_ 275, U_ 276, U_ 277, U_ 278, U_ 279, U_ 280, U_ 281, U_ 282, U_ 283, U_ 284, U_ 285, U_ 286, U_ 287, U_ 288, U_ 289, U_ 290, U_ 291, U_ 292, U_ 293, U_ 294, U_ 295, U_ 296, U_ 297, U_ 298, U_ 299, U_ 300, U_ 301, U_ 302, U_ 303, U_ 304, U_ 305, U_ 306, U_ 307, U_ 308, U_ 309, U_ 310, U_ 311, U_ 312, U_ 313, U_ 314, U_ 315, U_ 316, U_ 317, U_ 318, U_ 319, U_ 320, U_ 321, U_ 322, U_ 323, U_ 324, U_ 325, U_ 326, U_ 327, U_ 328, U_ 329, U_ 330, U_ 331, U_ 332, U_ 333, U_ 334, U_ 335, U_ 336, U_ 337, U_ 338, U_ 339, U_ 340, U_ 341, U_ 342, U_ 343, U_ 344, U_ 345, U_ 346, U_ 347, U_ 348, U_ 349, U_ 350, U_ 351, U_ 352, U_ 353, U_ 354, U_ 355, U_ 356, U_ 357, U_ 358, U_ 359, U_ 360, U_ 361, U_ 362, U_ 363, U_ 364, U_ 365, U_ 366, U_ 367, U_ 368, U_ 369, U_ 370, U_ 371, U_ 372, U_ 373, U_ 374, U_ 375, U_ 376, U_ 377, U_ 378, U_ 379, U_ 380, U_ 381, U_ 382, U_ 383, U_ 384, U_ 385, U_ 386, U_ 387, U_ 388, U_ 389, U_ 390, U_ 391, U_ 392, U_ 393, U_ 394, U_ 395, U_ 396, U_ 397, U_ 398, U_ 399, U_ 400, U_ 401, U_ 402, U_ 403, U_ 404, U_ 405, U_ 406, U_ 407, U_ 408, U_ 409, U_ 410, U_ 411, U_ 412, U_ 413, U_ 414, U_ 415, U_ 416, U_ 417, U_ 418, U_ 419, U_ 420, U_ 421, U_ 422, U_ 423, U_ 424, U_ 425, U_ 426, U_ 427, U_ 428, U_ 429, U_ 430, U_ 431, U_ 432, U_ 433, U_ 434, U_ 435, U_ 436, U_ 437, U_ 438, U_ 439, U_ 440, U_ 441, U_ 442, U_ 443, U_ 444, U_ 445, U_ 446, U_ 447, U_ 448, U_ 449, U_ 450, U_ 451, U_ 452, U_ 453, U_ 454, U_ 455, U_ 456, U_ 457, U_ 458, U_ 459, U_ 460, U_ 461, U_ 462, U_ 463, U_ 464, U_ 465, U_ 466, U_ 467, U_ 468, U_ 469, U_ 470, U_ 471, U_ 472, U_ 473, U_ 474, U_ 475, U_ 476, U_ 477, U_ 478, U_ 479]) (fun U_ wr => ∃ (i : Nat) (lo hi : Int), i ≤ n ∧ U_ 33 = .int .i64 i ∧ U_ 31 = .int .i64 lo ∧ U_ 32 = .int .i64 hi ∧ Hid (Bnd l k i lo hi) ∧ Below wk.heap.size wk wr) (fun U_ => n - (intOf (U_ 33)).toNat) (by kernel_rfl) ⟨0, 255, 0, Nat.zero_le _, rfl, rfl, rfl, Lib.hid (bnd_zero l k), Below.refl _ _⟩ ?_
                                            intro U_ wr mmf_ hrel hmf_
                                            dsimp only
                                            as_aux_lemma =>
                                              · skip
                                                obtain ⟨i, lo, high, hi_, e33_, e31_, e32_, HBD, hb⟩ := hrel
                                                have hkf_ : n - (intOf (U_ 33)).toNat = mmf_ := hmf_.out
                                                rw [e33_] at hkf_
                                                have HMf_ : Hid (n - i = mmf_) := Lib.hid hkf_
                                                clear hmf_ hkf_
                                                rw [e33_, e31_, e32_]
                                                clear e33_ e31_ e32_
                                                by_cases hlt : i < n
                                                · skip
                                                  as_aux_lemma =>
                                                    obtain ⟨bl, ol, x, A', n', c', rfl, hx, hcx, hru⟩ := (HRL.out.below (HBK.out.trans (hb.mono HBK.out.size))).get hlt
                                                    have hx3 := hcx 3 _ rfl
                                                    have HOX := Lib.hid (HO.out.ok x (List.mem_of_getElem? hx))
                                                    obtain rfl : n' = 3 := by rw [← hru.1]; exact HOX.out.col.1
                                                    obtain ⟨b3, o3, q, rfl, hq, hc3⟩ := hru.get hk3
                                                    have h3 := hc3 0 _ rfl
                                                    simp only [intE, Nat.mul_one, Nat.add_zero] at h3
                                                    have hqr := HOX.out.col.of hq
                                                    have HB2 := Lib.hid (bnd_next HBD.out hx hq hqr)
                                                    obtain ⟨lo', hlo⟩ : ∃ v, min lo q = v := ⟨_, rfl⟩
                                                    obtain ⟨hi', hhi⟩ : ∃ v, max high q = v := ⟨_, rfl⟩
                                                    have m1 := fun W => run_min2 (P := Tryz.prog) #[2, 2] 2 lo q lo' hlo W
                                                    have m2 := fun W => run_max2 (P := Tryz.prog) #[2, 2] 2 high q hi' hhi W
                                                    rw [hlo, hhi] at HB2
                                                    clear hlo hhi hc3 hq hx hcx
                                                    go_wp2
                                                    exact LoopFr.of (by kernel_rfl) ⟨i + 1, lo', hi', by omega, rfl, rfl, rfl, HB2, hb⟩ (by have h := HMf_.out; show n - (i + 1) < mmf_; omega)
                                                · skip
                                                  as_aux_lemma =>
                                                    obtain rfl : n = i := by omega
                                                    have hbM := hb
                                                    obtain ⟨b5, o5, M, rfl, hM, hc5⟩ := (HRMX.out.below hb).get hk3
                                                    have h5 := hc5 0 _ rfl
                                                    simp only [intE, Nat.mul_one, Nat.add_zero] at h5
                                                    have hMM : M = dR (partV p l k l.length) p.sum := by
                                                      rw [mixR_get p l hk3] at hM
                                                      exact (Option.some.inj hM).symm
                                                    have hbt := bnd_mix HBD.out HPR.out (by rw [HLP.out]; exact HRL.out.len.symm) HSP.out hk3 HO.out HRL.out.len
                                                    rw [← hMM] at hbt
                                                    have t1 : ¬ M < lo := by omega
                                                    have t2 : ¬ high < M := by omega
                                                    have hbF := HBW.out.trans (hb.mono HBW.out.size)
                                                    clear hc5 hM hMM hbt
                                                    go_wp2
                                                    exact LoopFr.of (by kernel_rfl) ⟨k + 1, by omega, rfl, hbF⟩ (by have h := HMe_.out; show 3 - (k + 1) < mme_; omega)

end Go.Proofs.YtbdjhecbingcjaaGreatDoor

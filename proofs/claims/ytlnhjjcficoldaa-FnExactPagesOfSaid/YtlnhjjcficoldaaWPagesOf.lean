/- The walk of the law on PagesOf, printed by a program of mine off the law's text. -/
import Derived.Test.YtlnhjjcficoldaaRows
import Derived.Test.YtlnhjjcficoldaaPagesS
import Derived.Test.YtlnhjjcficoldaaPagesP
import Derived.Test.YtlnhjjcficoldaaMarks
import Derived.Test.YtlnhjjcficoldaaConvS
namespace Go.Proofs.Ytlnhjjcficoldaa
set_option linter.unusedVariables false
set_option linter.unusedSimpArgs false
set_option linter.unusedSectionVars false
open Go.RowKit

theorem sum_pages (hd : ByteArray) (m : Nat) (L : List ByteArray) : ∀ q : Nat, sumSS ((List.range q).map (pageAt hd m L)) ≤ q + min (q * m) L.length
  | 0 => by simp [sumSS]
  | q + 1 => by
    have ih := sum_pages hd m L q
    rw [List.range_succ, List.map_append, sumSS_app, List.map_singleton, Nat.add_mul, Nat.one_mul]
    have h1 : sumSS [pageAt hd m L q] = 1 + min m (L.length - q * m) := by
      simp only [sumSS, pageAt, List.length_cons, List.length_take, List.length_drop]; omega
    rw [h1]
    generalize q * m = x at *
    omega
theorem pg_small {ss : List ByteArray} {h : Int} {hd : ByteArray} (hs : ss.length ≤ 1048576) : (∀ l ∈ pgV ss h hd, l.length ≤ 1048576) ∧ sumSS (pgV ss h hd) ≤ 4194304 := by
  unfold pgV
  split
  · rename_i hc
    have hh : 2 ≤ h ∧ h ≤ 200 := by
      simp only [Bool.and_eq_true, inB, decide_eq_true_eq] at hc
      omega
    obtain ⟨m, hm⟩ : ∃ m : Nat, (h - 1).toNat = m := ⟨_, rfl⟩
    have hm2 : m ≤ 199 := by omega
    rw [hm]
    refine ⟨fun l hl => ?_, ?_⟩
    · obtain ⟨k, _, rfl⟩ := List.mem_map.1 hl
      simp only [pageAt, List.length_cons, List.length_take]
      omega
    · have h1 := sum_pages hd m ss (pageCount m ss.length)
      have h2 : pageCount m ss.length ≤ ss.length + m - 1 := Nat.div_le_self _ _
      unfold pagesB
      omega
  · exact ⟨fun l hl => (by cases hl), (by simp [sumSS])⟩
/-- pages of the call's own, in blocks from lo to hi -/
structure PG (lo hi : Nat) (w : World) (A : Option Addr) (n c : Nat) (ps : List Sl) (L : List (List ByteArray)) : Prop where
  gl : GL slE 22 lo w (.slice A n c) ps
  pg : PgW lo w (.slice A n c) ps L
  top : ∀ j, Value.ownBlock (.slice A n c) = some j → j < hi
  tops : ∀ (k : Nat) (p : Sl), ps[k]? = some p → ∀ j, Value.ownBlock (.slice p.A p.n p.c) = some j → lo ≤ j ∧ j < hi
theorem PG.of {lo : Nat} {w : World} {A : Option Addr} {n c : Nat} {ps : List Sl} {L : List (List ByteArray)} (h1 : GL slE 22 lo w (.slice A n c) ps) (h2 : PgW lo w (.slice A n c) ps L) : PG lo w.heap.size w A n c ps L :=
  ⟨h1, h2, fun j hj => (h1.lt j hj).2, fun k p hp j hj => by
    obtain ⟨l, hl⟩ : ∃ l, L[k]? = some l := get_ex (by rw [← h2.len]; exact get_lt hp)
    exact (h2.row k p l hp hl).lt j hj⟩
theorem PG.below {lo hi : Nat} {w w' : World} {A : Option Addr} {n c : Nat} {ps : List Sl} {L : List (List ByteArray)} (h : PG lo hi w A n c ps L) (hb : Below w.heap.size w w') : PG lo hi w' A n c ps L :=
  ⟨h.gl.below hb, h.pg.below hb, h.top, h.tops⟩
theorem PG.touch {F : Nat → Prop} {lo hi : Nat} {w w' : World} {A : Option Addr} {n c : Nat} {ps : List Sl} {L : List (List ByteArray)} (h : PG lo hi w A n c ps L) (ht : Touch F w w') (hF : ∀ j, lo ≤ j → j < hi → ¬ F j) : PG lo hi w' A n c ps L :=
  ⟨h.gl.touch ht fun j hj => hF j (h.gl.low j hj) (h.top j hj), h.pg.touch ht fun k p hp j hj => hF j (h.tops k p hp j hj).1 (h.tops k p hp j hj).2, h.top, h.tops⟩
theorem PG.in {lo hi : Nat} {w : World} {A : Option Addr} {n c : Nat} {ps : List Sl} {L : List (List ByteArray)} (h : PG lo hi w A n c ps L) : ∀ j, PgF ps j → lo ≤ j ∧ j < hi := fun j ⟨k, p, hp, hj⟩ => h.tops k p hp j hj
set_option maxHeartbeats 4000000 in
theorem w_PagesOf (A0 : Option Addr) (n0 c0 : Nat) (l0 : List ByteArray) (a1 : Int) (a2 : ByteArray) (w : World) (hr0 : Rd strE w A0 n0 l0) (hn0 : n0 ≤ maxLen) (hg0 : ∀ x ∈ l0, x.size ≤ maxLen) (lo1 : -9223372036854775808 ≤ a1) (hi1 : a1 ≤ 9223372036854775807) (wf2 : a2.size ≤ maxLen) :
    Calls Try.prog 3 #[.slice A0 n0 c0, .int .i64 a1, .string a2] w (RetB true w) := by
  have HG0 := Lib.hid hg0; clear hg0
  have hB := Below.refl w.heap.size w
  by_cases hs1 : (1048576 : Int) < a2.size
  · go_enter Try.func3, Try.ntmps3
    go_wp2
    go_ret
    exact ⟨rfl, Below.refl _ _⟩
  have hs1' : a2.size ≤ 1048576 := by omega
  go_enter Try.func3, Try.ntmps3
  go_wp2_with fail
  refine (l_szStringS A0 n0 c0 l0 _ _ (hr0.below hB) hn0 HG0.out (by omega) (by omega)).mono ?_
  rintro e w1 ⟨r0, rfl, hb, hlo0, hq0⟩
  replace hb : Below w.heap.size w w1 := hb ▸ Below.refl _ _
  replace hB := hB.trans (hb.mono hB.size)
  have z1 := hb.size
  clear hb
  by_cases hneg0 : r0 < 0
  · obtain rfl : r0 = -1 := by omega
    clear hq0
    go_wp2
    go_ret
    exact ⟨rfl, hB⟩
  have hp0 := hq0 (by omega)
  have hpp0 := sumS_nonneg l0
  have hb0 : n0 ≤ 1048576 := by omega
  have HS := Lib.hid (pg_small (h := a1) (hd := a2) (show l0.length ≤ 1048576 by rw [hr0.1]; exact hb0))
  have HL1 := Lib.hid HS.out.1
  have HL2 := Lib.hid HS.out.2
  clear hp0 hpp0 hq0 hlo0 HS
  go_wp2_with fail
  refine (l_toStringS A0 n0 c0 l0 _ (hr0.below hB) hb0).mono ?_
  rintro e w2 ⟨At1, ct1, rfl, hl, ho, hb⟩
  obtain ⟨Ft1, hFt1, hOt1⟩ := OL.of_own ho hl
  clear ho hl
  replace hB := hB.trans (hb.mono hB.size)
  have z2 : w1.heap.size ≤ w2.heap.size := hb.size
  clear hb
  go_wp2_with fail
  refine (s_PagesOf At1 n0 ct1 l0 a1 a2 _ hOt1.rd (by unfold maxLen; omega) HG0.out wf2).mono ?_
  rintro e w3 ⟨Aw0, nw0, cw0, pw0, hlw0, hnw0, hgw0, hpw0, rfl, hb⟩
  have hOw0 := PG.of hgw0 hpw0
  clear hgw0 hpw0
  replace hB := hB.trans (hb.mono hB.size)
  have z3 : w2.heap.size ≤ w3.heap.size := hb.size
  clear hb
  go_wp2_with fail
  refine (l_toStringS A0 n0 c0 l0 _ (hr0.below hB) hb0).mono ?_
  rintro e w4 ⟨Ax0, cx0, rfl, hl, ho, hb⟩
  obtain ⟨Fx0, hFx0, hOx0⟩ := OL.of_own ho hl
  clear ho hl
  replace hB := hB.trans (hb.mono hB.size)
  have z4 : w3.heap.size ≤ w4.heap.size := hb.size
  replace hOw0 := hOw0.below hb
  clear hb
  go_wp2_with fail
  refine (i_PagesOf Ax0 n0 cx0 l0 a1 a2 _ hOx0.rd (by unfold maxLen; omega) HG0.out wf2 hOx0.capLe).mono ?_
  rintro e w5 ⟨Ag0, ng0, cg0, pg0, hlg0, hng0, hgg0, hpg0, rfl, hb⟩
  have hOg0 := PG.of hgg0 hpg0
  clear hgg0 hpg0
  obtain rfl : nw0 = ng0 := hlw0.symm.trans hlg0
  clear hlg0 hng0
  replace hB := hB.trans (hb.mono hB.size)
  have z5 : w4.heap.size ≤ w5.heap.size := hb.size
  replace hOw0 := hOw0.below hb
  replace hOx0 := hOx0.below hb
  clear hb
  go_wp2_with fail
  refine (l_eqStringSS Ag0 Aw0 _ cg0 cw0 pg0 pw0 _ _ hOg0.gl.rd hOw0.gl.rd hOg0.pg.rd hOw0.pg.rd hnw0 HL1.out).mono ?_
  rintro e w6 ⟨rfl, hb⟩
  replace hB := hB.trans (hb.mono hB.size)
  have z6 : w5.heap.size ≤ w6.heap.size := hb.size
  replace hOw0 := hOw0.below hb
  replace hOx0 := hOx0.below hb
  replace hOg0 := hOg0.below hb
  clear hb
  go_wp2_with fail
  refine (l_toStringS A0 n0 c0 l0 _ (hr0.below hB) hb0).mono ?_
  rintro e w7 ⟨At2, ct2, rfl, hl, ho, hb⟩
  obtain ⟨Ft2, hFt2, hOt2⟩ := OL.of_own ho hl
  clear ho hl
  replace hB := hB.trans (hb.mono hB.size)
  have z7 : w6.heap.size ≤ w7.heap.size := hb.size
  replace hOw0 := hOw0.below hb
  replace hOx0 := hOx0.below hb
  replace hOg0 := hOg0.below hb
  clear hb
  go_wp2_with fail
  refine (l_eqStringS Ax0 At2 _ cx0 ct2 _ _ hOx0.rd hOt2.rd hOx0.max).mono ?_
  rintro e w8 ⟨rfl, hb⟩
  replace hB := hB.trans (hb.mono hB.size)
  have z8 : w7.heap.size ≤ w8.heap.size := hb.size
  replace hOw0 := hOw0.below hb
  replace hOx0 := hOx0.below hb
  replace hOg0 := hOg0.below hb
  replace hOt2 := hOt2.below hb
  clear hb
  go_wp2_with fail
  refine (l_markStringS Fx0 Ax0 _ cx0 _ _ _ hOx0 (by omega) (by omega) (by omega)).mono ?_
  rintro e w9 ⟨rfl, hOx0, ht⟩
  replace hOw0 := hOw0.touch ht (fun j h1 h2 h3 => by have := hFx0 j h3; omega)
  replace hOg0 := hOg0.touch ht (fun j h1 h2 h3 => by have := hFx0 j h3; omega)
  replace hB := Below.touch hB ht (fun k hk => by have := hFx0 k hk; omega) (by omega)
  have z9 := ht.size
  clear ht
  go_wp2_with fail
  refine (l_eqStringSS Ag0 Aw0 _ cg0 cw0 pg0 pw0 _ _ hOg0.gl.rd hOw0.gl.rd hOg0.pg.rd hOw0.pg.rd hnw0 HL1.out).mono ?_
  rintro e w10 ⟨rfl, hb⟩
  replace hB := hB.trans (hb.mono hB.size)
  have z10 : w9.heap.size ≤ w10.heap.size := hb.size
  replace hOw0 := hOw0.below hb
  replace hOx0 := hOx0.below hb
  replace hOg0 := hOg0.below hb
  clear hb
  go_wp2_with fail
  refine (l_markStringSS _ Ag0 _ cg0 pg0 _ 1 _ hOg0.gl hOg0.pg hnw0 HL2.out (by omega) (by omega)).mono ?_
  rintro e w11 ⟨rfl, hg, hp, ht⟩
  have hFg := hOg0.in
  replace hOw0 := hOw0.touch ht (fun j h1 h2 h3 => by have := hFg j h3; omega)
  replace hOg0 := PG.mk hg hp hOg0.top hOg0.tops
  replace hOx0 := hOx0.touch ht (fun k h1 h2 => by have := hFx0 k h1; have := hFg k h2; omega)
  replace hB := Below.touch hB ht (fun k hk => by have := hFg k hk; omega) (by omega)
  have z11 := ht.size
  clear ht hg hp
  go_wp2_with fail
  refine (l_heldStringSS _ Ag0 _ cg0 pg0 _ 1 _ hOg0.gl hOg0.pg hnw0 HL2.out (by omega)).mono ?_
  rintro e w12 ⟨rfl, hb⟩
  replace hB := hB.trans (hb.mono hB.size)
  have z12 : w11.heap.size ≤ w12.heap.size := hb.size
  replace hOw0 := hOw0.below hb
  replace hOx0 := hOx0.below hb
  replace hOg0 := hOg0.below hb
  clear hb
  go_wp2_with fail
  refine (l_toStringS A0 n0 c0 l0 _ (hr0.below hB) hb0).mono ?_
  rintro e w13 ⟨At3, ct3, rfl, hl, ho, hb⟩
  obtain ⟨Ft3, hFt3, hOt3⟩ := OL.of_own ho hl
  clear ho hl
  replace hB := hB.trans (hb.mono hB.size)
  have z13 : w12.heap.size ≤ w13.heap.size := hb.size
  replace hOw0 := hOw0.below hb
  replace hOx0 := hOx0.below hb
  replace hOg0 := hOg0.below hb
  clear hb
  go_wp2_with fail
  refine (i_PagesOf At3 n0 ct3 l0 a1 a2 _ hOt3.rd (by unfold maxLen; omega) HG0.out wf2 hOt3.capLe).mono ?_
  rintro e w14 ⟨Ah0, nh0, ch0, ph0, hlh0, hnh0, hgh0, hph0, rfl, hb⟩
  have hOh0 := PG.of hgh0 hph0
  clear hgh0 hph0
  obtain rfl : nw0 = nh0 := hlw0.symm.trans hlh0
  clear hlh0 hnh0
  replace hB := hB.trans (hb.mono hB.size)
  have z14 : w13.heap.size ≤ w14.heap.size := hb.size
  replace hOw0 := hOw0.below hb
  replace hOx0 := hOx0.below hb
  replace hOg0 := hOg0.below hb
  clear hb
  go_wp2_with fail
  refine (l_eqStringSS Ah0 Aw0 _ ch0 cw0 ph0 pw0 _ _ hOh0.gl.rd hOw0.gl.rd hOh0.pg.rd hOw0.pg.rd hnw0 HL1.out).mono ?_
  rintro e w15 ⟨rfl, hb⟩
  replace hB := hB.trans (hb.mono hB.size)
  have z15 : w14.heap.size ≤ w15.heap.size := hb.size
  replace hOw0 := hOw0.below hb
  replace hOx0 := hOx0.below hb
  replace hOg0 := hOg0.below hb
  replace hOh0 := hOh0.below hb
  clear hb
  go_wp2_with fail
  refine (l_heldStringSS _ Ag0 _ cg0 pg0 _ 1 _ hOg0.gl hOg0.pg hnw0 HL2.out (by omega)).mono ?_
  rintro e w16 ⟨rfl, hb⟩
  replace hB := hB.trans (hb.mono hB.size)
  have z16 : w15.heap.size ≤ w16.heap.size := hb.size
  replace hOw0 := hOw0.below hb
  replace hOx0 := hOx0.below hb
  replace hOg0 := hOg0.below hb
  replace hOh0 := hOh0.below hb
  clear hb
  go_wp2
  go_ret
  exact ⟨rfl, hB⟩
end Go.Proofs.Ytlnhjjcficoldaa

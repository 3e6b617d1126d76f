/- The reference's PagesOf. -/
import Derived.Test.YtlnhjjcficoldaaRows
import Derived.Test.YtlnhjjcficoldaaPagesM
import Derived.Test.YtlnhjjcficoldaaRep
import Derived.Test.YtlnhjjcficoldaaRightsPush
import Derived.Test.YtlnhjjcficoldaaSrcT
import Derived.Deep.RegionHeld3
import Derived.Deep.DeepCutAuto
namespace Go.Proofs.Ytlnhjjcficoldaa
set_option linter.unusedVariables false
set_option linter.unusedSimpArgs false
set_option linter.unusedSectionVars false
open Go.RowKit

theorem rep_len {ss : List ByteArray} (h : repB ss = true) : ss.length ≤ 200 := by
  unfold repB at h
  rw [Bool.and_eq_true, decide_eq_true_eq] at h
  omega
/-- what is answered: the pages, the code -/
def pgV (ss : List ByteArray) (h : Int) (hd : ByteArray) : List (List ByteArray) := if repB ss && (inB h 2 200 && lineB hd) then pagesB hd (h - 1).toNat ss else []
def pgC (ss : List ByteArray) (h : Int) (hd : ByteArray) : Int := if repB ss then (if inB h 2 200 && lineB hd then 0 else 2) else 1
theorem pg_bad1 {ss : List ByteArray} {h : Int} {hd : ByteArray} (h1 : repB ss = false) : pgV ss h hd = [] ∧ pgC ss h hd = 1 := by unfold pgV pgC; rw [h1]; exact ⟨rfl, rfl⟩
theorem pg_bad2 {ss : List ByteArray} {h : Int} {hd : ByteArray} (h1 : repB ss = true) (h2 : (inB h 2 200 && lineB hd) = false) : pgV ss h hd = [] ∧ pgC ss h hd = 2 := by unfold pgV pgC; rw [h1, h2]; exact ⟨rfl, rfl⟩
theorem pg_ok {ss : List ByteArray} {h : Int} {hd : ByteArray} (h1 : repB ss = true) (h2 : (inB h 2 200 && lineB hd) = true) : pgV ss h hd = pagesB hd (h - 1).toNat ss ∧ pgC ss h hd = 0 := by unfold pgV pgC; rw [h1, h2]; exact ⟨rfl, rfl⟩
theorem pages_len (hd : ByteArray) (m : Nat) (L : List ByteArray) : (pagesB hd m L).length = pageCount m L.length := by unfold pagesB; simp
set_option maxRecDepth 100000 in
set_option maxHeartbeats 4000000 in
theorem s_PagesOf (A : Option Addr) (N c : Nat) (ss : List ByteArray) (h : Int) (hd : ByteArray) (w : World) (hr : Rd strE w A N ss) (hN : N ≤ maxLen) (hs : ∀ s ∈ ss, s.size ≤ maxLen) (hhd : hd.size ≤ maxLen) :
    Calls Try.prog 5 #[.slice A N c, .int .i64 h, .string hd] w (RetSSC (pgV ss h hd) (pgC ss h hd) w) := by
  obtain ⟨i0, hi, hz0, hz1, hz2⟩ := info_parts Try.info_str
  have HI := Lib.hid (And.intro hz1 hz2)
  clear hz1 hz2
  obtain ⟨j0, gi, gz0, gz1, gz2⟩ := info_parts Try.info_slS
  have GI := Lib.hid (And.intro gz1 gz2)
  clear gz1 gz2
  go_enter Try.func5, Try.ntmps5
  go_wp2_with fail
  refine (s_l30Ok A N c ss w hr hN hs).mono ?_
  rintro e w' ⟨rfl, rfl⟩
  rcases h1 : repB ss with _ | _
  · have E := Lib.hid (pg_bad1 (h := h) (hd := hd) h1)
    clear h1
    go_wp2
    go_ret2
    exact RetSSC.nil E.out.1 E.out.2 (Below.refl _ _)
  have H1 := Lib.hid h1
  have hN2 := rep_len h1
  rw [hr.1] at hN2
  clear h1
  go_wp2_with fail
  refine (s_l00In _ _ _ _).mono ?_
  rintro e w' ⟨rfl, rfl⟩
  rcases h2 : inB h 2 200 with _ | _
  · have E := Lib.hid (pg_bad2 H1.out (show (inB h 2 200 && lineB hd) = false by rw [h2]; rfl))
    clear h2
    go_wp2
    go_ret2
    exact RetSSC.nil E.out.1 E.out.2 (Below.refl _ _)
  have H2 := Lib.hid h2
  have hin := inB_spec h2
  clear h2
  go_wp2_with fail
  refine (s_l30Line hd _ hhd).mono ?_
  rintro e w' ⟨rfl, rfl⟩
  rcases h3 : lineB hd with _ | _
  · have E := Lib.hid (pg_bad2 H1.out (show (inB h 2 200 && lineB hd) = false by rw [h3, Bool.and_false]))
    clear h3
    go_wp2
    go_ret2
    exact RetSSC.nil E.out.1 E.out.2 (Below.refl _ _)
  have E := Lib.hid (pg_ok H1.out (show (inB h 2 200 && lineB hd) = true by rw [H2.out, h3]; rfl))
  clear h3
  obtain ⟨m, hm⟩ : ∃ m : Nat, h - 1 = m := ⟨(h - 1).toNat, by omega⟩
  obtain rfl : h = (m : Int) + 1 := by omega
  have hm1 : 1 ≤ m := by omega
  have hm2 : m ≤ 199 := by omega
  rw [show ((m : Int) + 1 - 1).toNat = m by omega] at E
  have HL := Lib.hid hr.1
  clear hm hin H2 H1
  have hG0 : GL slE 22 w.heap.size (w.alloc (.cells #[] 22)) (.slice (some ⟨w.heap.size, 0, none⟩) 0 0) [] := GL.mk0 (Nat.le_refl _)
  have hb0 : Below w.heap.size w (w.alloc (.cells #[] 22)) := (Below.refl _ _).alloc (Nat.le_refl _) _
  have HG0 := Lib.hid hG0
  clear hG0
  go_wp2_with fail
  go_loopw [8, 9] (fun v i wr => ∃ (k : Nat) (B : Option Addr) (n d : Nat) (ps : List Sl), k ≤ N ∧ i = .int .i64 k ∧ v = .slice B n d ∧ n ≤ k ∧ Hid (GL slE 22 w.heap.size wr (.slice B n d) ps) ∧ Hid (PgW w.heap.size wr (.slice B n d) ps (pagesB hd m (ss.take k))) ∧ Below w.heap.size w wr) (fun _ i _ => N - (intOf i).toNat)
  case atStart => exact ⟨0, _, 0, 0, [], Nat.zero_le _, rfl, rfl, by omega, HG0, Lib.hid ⟨by rw [List.take_zero, pagesB_nil hd hm1]; rfl, fun k p l h => by simp at h, fun k p h => by simp at h, fun j k p q _ h => by simp at h⟩, hb0⟩
  case round =>
    obtain ⟨k, B, n, d, ps, hk, rfl, rfl, hnk, HG, HP, hb⟩ := hrel
    clear HG0 hb0
    by_cases hlt : k < N
    · obtain ⟨b, off, x, rfl, hx, hc⟩ := hr.get hlt
      have hc0 := hc 0 (.string x) rfl
      simp only [strE, Nat.mul_one, Nat.add_zero] at hc0
      have HX := Lib.hid hx
      have hl1 : (ss.take k).length = k := by rw [List.length_take, HL.out]; omega
      have hnl : n = pageCount m k := by rw [← HG.out.len, HP.out.len, pages_len, hl1]
      obtain ⟨q, r, hqr, hrm⟩ : ∃ q r, k = q * m + r ∧ r < m := ⟨k / m, k % m, by rw [Nat.mul_comm]; exact (Nat.div_add_mod k m).symm, Nat.mod_lt _ (by omega)⟩
      clear hc hx
      by_cases hr0 : 0 < r
      · have hnq : n = q + 1 := by rw [hnl, hqr, pageCount_part hrm hr0]
        obtain ⟨e1, e2, e3⟩ := pages_more hd x hrm hr0 (L := ss.take k) (by rw [hl1, hqr])
        have hsn : ss.take (k + 1) = ss.take k ++ [x] := take_of_get HX.out
        obtain ⟨L0, hL0e⟩ : ∃ L0, (List.range q).map (pageAt hd m (ss.take k)) = L0 := ⟨_, rfl⟩
        obtain ⟨l0, hl0e⟩ : ∃ l0, pageAt hd m (ss.take k) q = l0 := ⟨_, rfl⟩
        have hL0 : L0.length = q := by rw [← hL0e]; simp
        rw [hL0e, hl0e] at e1 e2
        rw [hl0e] at e3
        rw [← hsn] at e2
        have HPG := Lib.hid e2
        obtain ⟨psX, rfl⟩ : ∃ p, p = ps := ⟨_, rfl⟩
        obtain ⟨wX, rfl⟩ : ∃ p, p = wr := ⟨_, rfl⟩
        have HGx := HG
        have HPx : Hid (PgW w.heap.size wX (.slice B n d) psX (L0 ++ [l0])) := Lib.hid (by rw [← e1]; exact HP.out)
        have hbX := hb
        have hbX' := hb
        have hn1 : 1 ≤ n := by omega
        have hL0' : L0.length = n - 1 := by omega
        replace hL0 := hL0'
        clear hL0'
        have hll : l0.length = r + 1 := e3
        clear HG HP e1 e2 hL0e hl0e hsn
        obtain ⟨go, hgoB⟩ := HGx.out.place (by omega)
        subst hgoB
        obtain ⟨⟨pA, pn, pc⟩, hpt⟩ : ∃ p, psX[n - 1]? = some p := get_ex (by rw [HGx.out.len]; omega)
        have hrow := HPx.out.row (n - 1) _ l0 hpt (by rw [← hL0]; simp)
        have hcell := HGx.out.range (n - 1)
        rw [drop_of_get hpt] at hcell
        have hp0 := hcell 0 (.slice pA pn pc) rfl
        simp only [slE, Nat.mul_one, Nat.add_zero] at hp0 hrow
        have hpl : pn = r + 1 := by rw [← hrow.len]; exact hll
        subst hpl
        have hfz := HGx.out.free (n - 1)
        have hx0 := cell_later hbX' hc0
        have hlow := hrow.lt
        have hrowd := hrow.drew
        have hap := HPx.out.out (n - 1) _ hpt
        simp only at hap
        have HK := Lib.hid hpt
        have hsX := hbX.size
        have hgo : go < wX.heap.size := (HGx.out.lt go rfl).2
        have hbl : b < wX.heap.size := World.block_lt_of_cell? wX _ hx0
        have hbw : b < w.heap.size := World.block_lt_of_cell? w _ hc0
        have hall : ∀ o, (wX.drew.alloc o).cell? ⟨b, off + k, none⟩ = some (.string x) ∧ (wX.drew.alloc o).cell? ⟨go, n - 1, none⟩ = some (.slice pA (r + 1) pc) := fun o => ⟨(World.cell?_alloc_lt wX o _ hbl).trans hx0, (World.cell?_alloc_lt wX o _ hgo).trans hp0⟩
        clear hcell hpt hrow
        have hq0 : ((n : Int) == 0) = false := by rw [beq_eq_false_iff_ne]; omega
        have hq00 : (n == 0) = false := by rw [beq_eq_false_iff_ne]; omega
        have hq1 : (((r + 1 : Nat) : Int) == (m : Int) + 1) = false := by rw [beq_eq_false_iff_ne]; omega
        have hq2 : ((r : Int) + 1 == (m : Int) + 1) = false := by rw [beq_eq_false_iff_ne]; omega
        clear hqr hnl hnq hl1
        go_wp2_with fail
        have hwr : IntKind.i64.wrap ((n : Int) - 1) = ((n - 1 : Nat) : Int) := by rw [IntKind.wrap_i64]; omega
        have hi1 : ((n - 1 : Nat) : Int) < (n : Int) := by omega
        have hi2 : (0 : Int) ≤ ((n - 1 : Nat) : Int) := by omega
        have hi3 : (k : Int) < (N : Int) := by omega
        have hi4 : n - 1 < n := by omega
        have hd0 : wX.drew.cell? ⟨go, n - 1, none⟩ = some (.slice pA (r + 1) pc) := hp0
        have hne7 : (⟨go, n - 1, none⟩ : Addr) ≠ ⟨b, off + k, none⟩ := fun e => by have h1 := congrArg Addr.block e; simp only at h1; have h2 := (HGx.out.lt go rfl).1; omega
        have hal : ∀ o, (wX.drew.alloc o).cell? ⟨go, n - 1, none⟩ = some (.slice pA (r + 1) pc) := fun o => (hall o).2
        have hA : Below wX.heap.size wX (wX.drew.alloc (.cells #[.string x] 9)) := (Below.refl _ _).drew.alloc (Nat.le_refl _) _
        refine wp_region_held_drew (S := fun w' => w'.cell? ⟨b, off + k, none⟩ = some (.string x)) (by kernel_rfl) hx0 (fun hHeld => ?_)
        refine wpAnyH_take (i := 0) (v := ?v0) rfl (by kernel_rfl) (by kernel_rfl) (by kernel_rfl) (fun _ _ _ h => h) (Or.inl ⟨by rfl, ?hy0⟩) (by assumption) ?_
        case hy0 => intro w hSw; (try dsimp only at hSw); go_simp; try with_reducible rfl
        try simp only [List.getElem_toArray, List.getElem_cons_succ, List.getElem_cons_zero, Act.put, List.setIfInBounds_toArray, List.set_cons_zero, List.set_cons_succ]
        refine wpAnyH_take (i := 1) (v := ?v1) rfl (by kernel_rfl) (by kernel_rfl) (by kernel_rfl) (fun _ _ _ h => h) (Or.inl ⟨by rfl, ?hy1⟩) (by assumption) ?_
        case hy1 => intro w hSw; (try dsimp only at hSw); go_simp; try with_reducible rfl
        try simp only [List.getElem_toArray, List.getElem_cons_succ, List.getElem_cons_zero, Act.put, List.setIfInBounds_toArray, List.set_cons_zero, List.set_cons_succ]
        refine wpAnyH_take (i := 2) (v := ?v2) rfl (by kernel_rfl) (by kernel_rfl) (by kernel_rfl) (fun _ _ _ h => h) (Or.inl ⟨by rfl, ?hy2⟩) (by assumption) ?_
        case hy2 => intro w hSw; (try dsimp only at hSw); go_simp; try with_reducible rfl
        try simp only [List.getElem_toArray, List.getElem_cons_succ, List.getElem_cons_zero, Act.put, List.setIfInBounds_toArray, List.set_cons_zero, List.set_cons_succ]
        refine wpAnyH_take (i := 3) (v := ?v3) rfl (by kernel_rfl) (by kernel_rfl) (by kernel_rfl) (fun _ _ _ h => h) (Or.inl ⟨by rfl, ?hy3⟩) (by assumption) ?_
        case hy3 => intro w hSw; (try dsimp only at hSw); go_simp; try with_reducible rfl
        try simp only [List.getElem_toArray, List.getElem_cons_succ, List.getElem_cons_zero, Act.put, List.setIfInBounds_toArray, List.set_cons_zero, List.set_cons_succ]
        refine wpAnyH_take (i := 4) (v := ?v4) rfl (by kernel_rfl) (by kernel_rfl) (by kernel_rfl) (fun _ _ _ h => h) (Or.inl ⟨by rfl, ?hy4⟩) (by assumption) ?_
        case hy4 => intro w hSw; (try dsimp only at hSw); go_simp; try with_reducible rfl
        try simp only [List.getElem_toArray, List.getElem_cons_succ, List.getElem_cons_zero, Act.put, List.setIfInBounds_toArray, List.set_cons_zero, List.set_cons_succ]
        refine wpAnyH_take (i := 5) (v := ?v5) rfl (by kernel_rfl) (by kernel_rfl) (by kernel_rfl) (fun _ _ _ h => h) (Or.inl ⟨by rfl, ?hy5⟩) (by assumption) ?_
        case hy5 => intro w hSw; (try dsimp only at hSw); go_simp; try with_reducible rfl
        try simp only [List.getElem_toArray, List.getElem_cons_succ, List.getElem_cons_zero, Act.put, List.setIfInBounds_toArray, List.set_cons_zero, List.set_cons_succ]
        refine wpAnyH_take (i := 6) (v := ?v6) rfl (by kernel_rfl) (by kernel_rfl) (by kernel_rfl) (fun _ _ _ h => h) (Or.inl ⟨by rfl, ?hy6⟩) (by assumption) ?_
        case hy6 => intro w hSw; (try dsimp only at hSw); go_simp; try with_reducible rfl
        try simp only [List.getElem_toArray, List.getElem_cons_succ, List.getElem_cons_zero, Act.put, List.setIfInBounds_toArray, List.set_cons_zero, List.set_cons_succ]
        refine wpAnyH_take (i := 8) (v := ?v8) rfl (by kernel_rfl) (by kernel_rfl) (by kernel_rfl) (fun _ _ _ h => h) (Or.inl ⟨by rfl, ?hy8⟩) (by assumption) ?_
        case hy8 => intro w hSw; (try dsimp only at hSw); go_simp; try with_reducible rfl
        try simp only [List.getElem_toArray, List.getElem_cons_succ, List.getElem_cons_zero, Act.put, List.setIfInBounds_toArray, List.set_cons_zero, List.set_cons_succ]
        refine wpAnyH_take (i := 9) (v := ?v9) rfl (by kernel_rfl) (by kernel_rfl) (by kernel_rfl) (fun _ _ _ h => h) (Or.inl ⟨by rfl, ?hy9⟩) (by assumption) ?_
        case hy9 => intro w hSw; (try dsimp only at hSw); go_simp; try with_reducible rfl
        try simp only [List.getElem_toArray, List.getElem_cons_succ, List.getElem_cons_zero, Act.put, List.setIfInBounds_toArray, List.set_cons_zero, List.set_cons_succ]
        refine wpAnyH_take (i := 10) (v := ?v10) rfl (by kernel_rfl) (by kernel_rfl) (by kernel_rfl) (fun _ _ _ h => h) (Or.inl ⟨by rfl, ?hy10⟩) (by assumption) ?_
        case hy10 => intro w hSw; (try dsimp only at hSw); go_simp; try with_reducible rfl
        try simp only [List.getElem_toArray, List.getElem_cons_succ, List.getElem_cons_zero, Act.put, List.setIfInBounds_toArray, List.set_cons_zero, List.set_cons_succ]
        refine wpAnyH_take (i := 11) (v := ?v11) rfl (by kernel_rfl) (by kernel_rfl) (by kernel_rfl) (fun _ _ _ h => h) (Or.inl ⟨by rfl, ?hy11⟩) (by assumption) ?_
        case hy11 => intro w hSw; (try dsimp only at hSw); go_simp; try with_reducible rfl
        try simp only [List.getElem_toArray, List.getElem_cons_succ, List.getElem_cons_zero, Act.put, List.setIfInBounds_toArray, List.set_cons_zero, List.set_cons_succ]
        refine wpAnyH_ready (rs := [7, 12]) (by kernel_rfl) (by simp) ?_
        refine AllReadyH.cons rfl (fun K hK => ?_) (AllReadyH.cons rfl (fun K hK => ?_) AllReadyH.nil)
        · skip
          go_simp
          refine hK.out _ _ hx0 (fun hHeld => ?_)
          clear hK K
          try simp only [List.getElem_toArray, List.getElem_cons_succ, List.getElem_cons_zero, Act.put, List.setIfInBounds_toArray, List.set_cons_zero, List.set_cons_succ]
          refine wpAnyH_ready (rs := [12]) (by kernel_rfl) (by simp) ?_
          refine AllReadyH.cons rfl (fun K hK => ?_) AllReadyH.nil
          go_simp
          refine hK.out _ _ (hall _).1 (fun hHeld => ?_)
          clear hK K
          try simp only [List.getElem_toArray, List.getElem_cons_succ, List.getElem_cons_zero, Act.put, List.setIfInBounds_toArray, List.set_cons_zero, List.set_cons_succ]
          refine wpAnyH_ready (rs := [13]) (by kernel_rfl) (by simp) ?_
          refine AllReadyH.cons rfl (fun K hK => ?_) AllReadyH.nil
          refine step_pushO strE rfl _ _ 22 rfl w.heap.size 9 i0 _ 16 Try.underlying22 hi hz0 HI.out.1 HI.out.2 rfl pA (r + 1) pc l0 x rfl (hrowd.alloc _) wX.heap.size rfl (range_new _ _ _) (by omega) (by decide) (by simp; omega) ?_
          intro A7 c7 w7 hgl7 ht7 hn7
          have hx7 : w7.cell? ⟨b, off + k, none⟩ = some (.string x) := touch_cell ht7 (fun e => by have h9 := (hlow b e).1; omega) (hall _).1
          have hp7 : w7.cell? ⟨go, n - 1, none⟩ = some (.slice pA (r + 1) pc) := touch_cell ht7 (fun e => hap _ e rfl) (hall _).2
          have hf7 : w7.frozen? ⟨go, n - 1, none⟩ = false := free_touch (p := ⟨go, n - 1, none⟩) (free_later hfz hgo hA) (by simp; omega) (fun e => hap _ e rfl) ht7
          refine hK.out _ _ hx7 (fun hHeld => ?_)
          clear hK K
          try simp only [List.getElem_toArray, List.getElem_cons_succ, List.getElem_cons_zero, Act.put, List.setIfInBounds_toArray, List.set_cons_zero, List.set_cons_succ]
          refine wpAnyH_ready (rs := [14]) (by kernel_rfl) (by simp) ?_
          refine AllReadyH.cons rfl (fun K hK => ?_) AllReadyH.nil
          go_simp
          refine hK.out _ _ hx7 (fun hHeld => ?_)
          clear hK K
          try simp only [List.getElem_toArray, List.getElem_cons_succ, List.getElem_cons_zero, Act.put, List.setIfInBounds_toArray, List.set_cons_zero, List.set_cons_succ]
          refine wpAnyH_ready (rs := [15]) (by kernel_rfl) (by simp) ?_
          refine AllReadyH.cons rfl (fun K hK => ?_) AllReadyH.nil
          go_simp
          refine hK.out _ _ ((World.cell?_setCell_other _ _ _ _ hne7).trans hx7) (fun hHeld => ?_)
          clear hK K
          try simp only [List.getElem_toArray, List.getElem_cons_succ, List.getElem_cons_zero, Act.put, List.setIfInBounds_toArray, List.set_cons_zero, List.set_cons_succ]
          refine wpAnyH_done (by kernel_rfl) ?_ _
          have hN2' : Below w.heap.size w w7 := Below.touch (hbX.trans (hA.mono hbX.size)) ht7 (fun j hj => (hlow j hj).1) (by have := hA.size; omega)
          have hN3 := hN2'.setCell (p := ⟨go, n - 1, none⟩) (show w.heap.size ≤ go from (HGx.out.lt go rfl).1) (.slice A7 (r + 1 + 1) c7)
          obtain ⟨r1, r2⟩ := PgW.grow (p := ⟨pA, r + 1, pc⟩) (p' := ⟨A7, r + 1 + 1, c7⟩) (HGx.out.below hA) (HPx.out.below hA) (by rw [hL0]; exact HK.out) hgl7 ht7 hn7
          rw [hL0] at r1 r2
          rw [← HPG.out] at r2
          have HR1 := Lib.hid r1
          have HR2 := Lib.hid r2
          clear r1 r2 hgl7 ht7 hn7 hx7 hp7 hf7 hall hx0 hp0 hN2' hA hd0 hal
          go_wp2
          first | (refine ⟨⟨k + 1, _, n, d, psX.set (n - 1) ⟨A7, r + 1 + 1, c7⟩, by omega, by go_num, rfl, by omega, HR1, HR2, hN3⟩, ?_⟩; (simp [intOf]; omega)) | (go_roundw; (case rel => first | exact ⟨k + 1, _, n, d, psX.set (n - 1) ⟨A7, r + 1 + 1, c7⟩, by omega, by go_num, rfl, by omega, HR1, HR2, hN3⟩ | ((try refine ⟨trivial, ?_⟩); (repeat apply Exists.intro); exact ⟨⟨k + 1, _, n, d, psX.set (n - 1) ⟨A7, r + 1 + 1, c7⟩, by omega, by go_num, rfl, by omega, HR1, HR2, hN3⟩, rfl⟩)); (case measure => (simp [intOf]; omega)))
        · skip
          go_simp
          refine hK.out _ _ (hall _).1 (fun hHeld => ?_)
          clear hK K
          try simp only [List.getElem_toArray, List.getElem_cons_succ, List.getElem_cons_zero, Act.put, List.setIfInBounds_toArray, List.set_cons_zero, List.set_cons_succ]
          refine wpAnyH_ready (rs := [7]) (by kernel_rfl) (by simp) ?_
          refine AllReadyH.cons rfl (fun K hK => ?_) AllReadyH.nil
          go_simp
          refine hK.out _ _ (hall _).1 (fun hHeld => ?_)
          clear hK K
          try simp only [List.getElem_toArray, List.getElem_cons_succ, List.getElem_cons_zero, Act.put, List.setIfInBounds_toArray, List.set_cons_zero, List.set_cons_succ]
          refine wpAnyH_ready (rs := [13]) (by kernel_rfl) (by simp) ?_
          refine AllReadyH.cons rfl (fun K hK => ?_) AllReadyH.nil
          refine step_pushO strE rfl _ _ 22 rfl w.heap.size 9 i0 _ 16 Try.underlying22 hi hz0 HI.out.1 HI.out.2 rfl pA (r + 1) pc l0 x rfl (hrowd.alloc _) wX.heap.size rfl (range_new _ _ _) (by omega) (by decide) (by simp; omega) ?_
          intro A7 c7 w7 hgl7 ht7 hn7
          have hx7 : w7.cell? ⟨b, off + k, none⟩ = some (.string x) := touch_cell ht7 (fun e => by have h9 := (hlow b e).1; omega) (hall _).1
          have hp7 : w7.cell? ⟨go, n - 1, none⟩ = some (.slice pA (r + 1) pc) := touch_cell ht7 (fun e => hap _ e rfl) (hall _).2
          have hf7 : w7.frozen? ⟨go, n - 1, none⟩ = false := free_touch (p := ⟨go, n - 1, none⟩) (free_later hfz hgo hA) (by simp; omega) (fun e => hap _ e rfl) ht7
          refine hK.out _ _ hx7 (fun hHeld => ?_)
          clear hK K
          try simp only [List.getElem_toArray, List.getElem_cons_succ, List.getElem_cons_zero, Act.put, List.setIfInBounds_toArray, List.set_cons_zero, List.set_cons_succ]
          refine wpAnyH_ready (rs := [14]) (by kernel_rfl) (by simp) ?_
          refine AllReadyH.cons rfl (fun K hK => ?_) AllReadyH.nil
          go_simp
          refine hK.out _ _ hx7 (fun hHeld => ?_)
          clear hK K
          try simp only [List.getElem_toArray, List.getElem_cons_succ, List.getElem_cons_zero, Act.put, List.setIfInBounds_toArray, List.set_cons_zero, List.set_cons_succ]
          refine wpAnyH_ready (rs := [15]) (by kernel_rfl) (by simp) ?_
          refine AllReadyH.cons rfl (fun K hK => ?_) AllReadyH.nil
          go_simp
          refine hK.out _ _ ((World.cell?_setCell_other _ _ _ _ hne7).trans hx7) (fun hHeld => ?_)
          clear hK K
          try simp only [List.getElem_toArray, List.getElem_cons_succ, List.getElem_cons_zero, Act.put, List.setIfInBounds_toArray, List.set_cons_zero, List.set_cons_succ]
          refine wpAnyH_done (by kernel_rfl) ?_ _
          have hN2' : Below w.heap.size w w7 := Below.touch (hbX.trans (hA.mono hbX.size)) ht7 (fun j hj => (hlow j hj).1) (by have := hA.size; omega)
          have hN3 := hN2'.setCell (p := ⟨go, n - 1, none⟩) (show w.heap.size ≤ go from (HGx.out.lt go rfl).1) (.slice A7 (r + 1 + 1) c7)
          obtain ⟨r1, r2⟩ := PgW.grow (p := ⟨pA, r + 1, pc⟩) (p' := ⟨A7, r + 1 + 1, c7⟩) (HGx.out.below hA) (HPx.out.below hA) (by rw [hL0]; exact HK.out) hgl7 ht7 hn7
          rw [hL0] at r1 r2
          rw [← HPG.out] at r2
          have HR1 := Lib.hid r1
          have HR2 := Lib.hid r2
          clear r1 r2 hgl7 ht7 hn7 hx7 hp7 hf7 hall hx0 hp0 hN2' hA hd0 hal
          go_wp2
          first | (refine ⟨⟨k + 1, _, n, d, psX.set (n - 1) ⟨A7, r + 1 + 1, c7⟩, by omega, by go_num, rfl, by omega, HR1, HR2, hN3⟩, ?_⟩; (simp [intOf]; omega)) | (go_roundw; (case rel => first | exact ⟨k + 1, _, n, d, psX.set (n - 1) ⟨A7, r + 1 + 1, c7⟩, by omega, by go_num, rfl, by omega, HR1, HR2, hN3⟩ | ((try refine ⟨trivial, ?_⟩); (repeat apply Exists.intro); exact ⟨⟨k + 1, _, n, d, psX.set (n - 1) ⟨A7, r + 1 + 1, c7⟩, by omega, by go_num, rfl, by omega, HR1, HR2, hN3⟩, rfl⟩)); (case measure => (simp [intOf]; omega)))
      · by_cases hq : q = 0
        · skip
          have hn0 : n = 0 := by rw [hnl, hqr, show r = 0 by omega, Nat.add_zero, pageCount_full hm1]; omega
          have hq0 : ((n : Int) == 0) = true := by rw [hn0]; rfl
          clear hn0
          have hN0 : GL strE 9 w.heap.size (wr.alloc (.cells #[.string hd] 9)) (.slice (some ⟨wr.heap.size, 0, none⟩) 1 1) [hd] := GL.one hd hb.size
          have hb2 : Below w.heap.size w ((wr.alloc (.cells #[.string hd] 9)).alloc (.cells #[.slice (some ⟨wr.heap.size, 0, none⟩) 1 1] 22)) := (hb.alloc hb.size _).alloc (by have := hb.size; simp; omega) _
          have hr2 : Below wr.heap.size wr ((wr.alloc (.cells #[.string hd] 9)).alloc (.cells #[.slice (some ⟨wr.heap.size, 0, none⟩) 1 1] 22)) := ((Below.refl _ _).alloc (Nat.le_refl _) _).alloc (by simp) _
          have hsz := hb.size
          have hown := HG.out.lt
          have HNL := Lib.hid hnl
          have HQR := Lib.hid hqr
          have HQ := Lib.hid hq
          clear hnl hqr hq
          go_wp2_with (at_builtin; refine wpList_pushO slE rfl (.tmp 43) (.tmp 46) 24 rfl w.heap.size 22 j0 _ 24 Try.underlying24 gi gz0 GI.out.1 GI.out.2 rfl _ n d ps ⟨some ⟨wr.heap.size, 0, none⟩, 1, 1⟩ rfl ((HG.out.alloc _).alloc _) (wr.heap.size + 1) rfl (range_new' _ _ _ (by simp)) (by omega) (by decide) (by simp; omega) ?_; intro B2 d2 wX hgl4 ht4 hn4)
          have hnl := HNL.out
          have hqr := HQR.out
          have hq := HQ.out
          have hadd := PgW.add (HP.out.below hr2) ⟨some ⟨wr.heap.size, 0, none⟩, 1, 1⟩ [hd] (hN0.alloc _) (fun j h1 h2 => by cases h1; have h9 := (hown _ h2).2; simp only at h9; omega) (fun j q hq i h1 h2 => by
            cases h1
            obtain ⟨s, hs'⟩ : ∃ s, (pagesB hd m (ss.take k))[j]? = some s := get_ex (by rw [← HP.out.len]; exact get_lt hq)
            have h9 := ((HP.out.row j q s hq hs').lt _ h2).2
            simp only at h9
            omega) ht4 hn4
          have hbX : Below w.heap.size w wX := Below.touch hb2 ht4 (fun j hj => (hown j hj).1) hb2.size
          have hbX' := hbX
          have HPG : Hid (pagesB hd m (ss.take (k + 1)) = pagesB hd m (ss.take k) ++ [[hd] ++ [x]]) := Lib.hid (by rw [take_of_get HX.out]; exact pages_new hd x hm1 (by rw [hl1, hqr, show r = 0 by omega, Nat.add_zero]))
          obtain ⟨m', hm'⟩ : ∃ m', n + 1 = m' := ⟨_, rfl⟩
          have hmi : (n : Int) + 1 = (m' : Int) := by omega
          have hL0 : (pagesB hd m (ss.take k)).length = m' - 1 := by rw [pages_len, hl1, ← hnl]; omega
          obtain ⟨L0, hL0e⟩ : ∃ L0, pagesB hd m (ss.take k) = L0 := ⟨_, rfl⟩
          rw [hL0e] at hadd HPG hL0
          rw [hm'] at hgl4 hadd
          obtain ⟨psX, hpsX⟩ : ∃ p, ps ++ [⟨some ⟨wr.heap.size, 0, none⟩, 1, 1⟩] = p := ⟨_, rfl⟩
          rw [hpsX] at hgl4 hadd
          obtain ⟨l0, hl0⟩ : ∃ l, [hd] = l := ⟨_, rfl⟩
          have hll : l0.length = 1 := by rw [← hl0]; rfl
          rw [hl0] at hadd HPG
          have HGx := Lib.hid hgl4
          have HPx := Lib.hid hadd
          have hn1 : 1 ≤ m' := by omega
          have hmk : m' ≤ k + 1 := by omega
          rw [hmi, hm']
          clear hN0 hb2 hr2 hown hgl4 ht4 hn4 hadd HG HP hL0e hpsX hl0 hmi hm' hnl HNL HQR HQ hqr hq hl1 hr0 hnk hb hsz hrm
          obtain ⟨go, hgoB⟩ := HGx.out.place (by omega)
          subst hgoB
          obtain ⟨⟨pA, pn, pc⟩, hpt⟩ : ∃ p, psX[m' - 1]? = some p := get_ex (by rw [HGx.out.len]; omega)
          have hrow := HPx.out.row (m' - 1) _ l0 hpt (by rw [← hL0]; simp)
          have hcell := HGx.out.range (m' - 1)
          rw [drop_of_get hpt] at hcell
          have hp0 := hcell 0 (.slice pA pn pc) rfl
          simp only [slE, Nat.mul_one, Nat.add_zero] at hp0 hrow
          have hpl : pn = 1 := by rw [← hrow.len]; exact hll
          subst hpl
          have hfz := HGx.out.free (m' - 1)
          have hx0 := cell_later hbX' hc0
          have hlow := hrow.lt
          have hrowd := hrow.drew
          have hap := HPx.out.out (m' - 1) _ hpt
          simp only at hap
          have HK := Lib.hid hpt
          have hsX := hbX.size
          have hgo : go < wX.heap.size := (HGx.out.lt go rfl).2
          have hbl : b < wX.heap.size := World.block_lt_of_cell? wX _ hx0
          have hbw : b < w.heap.size := World.block_lt_of_cell? w _ hc0
          have hall : ∀ o, (wX.drew.alloc o).cell? ⟨b, off + k, none⟩ = some (.string x) ∧ (wX.drew.alloc o).cell? ⟨go, m' - 1, none⟩ = some (.slice pA (1) pc) := fun o => ⟨(World.cell?_alloc_lt wX o _ hbl).trans hx0, (World.cell?_alloc_lt wX o _ hgo).trans hp0⟩
          clear hcell hpt hrow
          have hwr : IntKind.i64.wrap ((m' : Int) - 1) = ((m' - 1 : Nat) : Int) := by rw [IntKind.wrap_i64]; omega
          have hi1 : ((m' - 1 : Nat) : Int) < (m' : Int) := by omega
          have hi2 : (0 : Int) ≤ ((m' - 1 : Nat) : Int) := by omega
          have hi3 : (k : Int) < (N : Int) := by omega
          have hi4 : m' - 1 < m' := by omega
          have hd0 : wX.drew.cell? ⟨go, m' - 1, none⟩ = some (.slice pA (1) pc) := hp0
          have hne7 : (⟨go, m' - 1, none⟩ : Addr) ≠ ⟨b, off + k, none⟩ := fun e => by have h1 := congrArg Addr.block e; simp only at h1; have h2 := (HGx.out.lt go rfl).1; omega
          have hal : ∀ o, (wX.drew.alloc o).cell? ⟨go, m' - 1, none⟩ = some (.slice pA (1) pc) := fun o => (hall o).2
          have hA : Below wX.heap.size wX (wX.drew.alloc (.cells #[.string x] 9)) := (Below.refl _ _).drew.alloc (Nat.le_refl _) _
          refine wp_region_held_drew (S := fun w' => w'.cell? ⟨b, off + k, none⟩ = some (.string x)) (by kernel_rfl) hx0 (fun hHeld => ?_)
          refine wpAnyH_take (i := 0) (v := ?vb0) rfl (by kernel_rfl) (by kernel_rfl) (by kernel_rfl) (fun _ _ _ h => h) (Or.inl ⟨by rfl, ?hyb0⟩) (by assumption) ?_
          case hyb0 => intro w hSw; (try dsimp only at hSw); go_simp; try with_reducible rfl
          try simp only [List.getElem_toArray, List.getElem_cons_succ, List.getElem_cons_zero, Act.put, List.setIfInBounds_toArray, List.set_cons_zero, List.set_cons_succ]
          refine wpAnyH_take (i := 1) (v := ?vb1) rfl (by kernel_rfl) (by kernel_rfl) (by kernel_rfl) (fun _ _ _ h => h) (Or.inl ⟨by rfl, ?hyb1⟩) (by assumption) ?_
          case hyb1 => intro w hSw; (try dsimp only at hSw); go_simp; try with_reducible rfl
          try simp only [List.getElem_toArray, List.getElem_cons_succ, List.getElem_cons_zero, Act.put, List.setIfInBounds_toArray, List.set_cons_zero, List.set_cons_succ]
          refine wpAnyH_take (i := 2) (v := ?vb2) rfl (by kernel_rfl) (by kernel_rfl) (by kernel_rfl) (fun _ _ _ h => h) (Or.inl ⟨by rfl, ?hyb2⟩) (by assumption) ?_
          case hyb2 => intro w hSw; (try dsimp only at hSw); go_simp; try with_reducible rfl
          try simp only [List.getElem_toArray, List.getElem_cons_succ, List.getElem_cons_zero, Act.put, List.setIfInBounds_toArray, List.set_cons_zero, List.set_cons_succ]
          refine wpAnyH_take (i := 3) (v := ?vb3) rfl (by kernel_rfl) (by kernel_rfl) (by kernel_rfl) (fun _ _ _ h => h) (Or.inl ⟨by rfl, ?hyb3⟩) (by assumption) ?_
          case hyb3 => intro w hSw; (try dsimp only at hSw); go_simp; try with_reducible rfl
          try simp only [List.getElem_toArray, List.getElem_cons_succ, List.getElem_cons_zero, Act.put, List.setIfInBounds_toArray, List.set_cons_zero, List.set_cons_succ]
          refine wpAnyH_take (i := 4) (v := ?vb4) rfl (by kernel_rfl) (by kernel_rfl) (by kernel_rfl) (fun _ _ _ h => h) (Or.inl ⟨by rfl, ?hyb4⟩) (by assumption) ?_
          case hyb4 => intro w hSw; (try dsimp only at hSw); go_simp; try with_reducible rfl
          try simp only [List.getElem_toArray, List.getElem_cons_succ, List.getElem_cons_zero, Act.put, List.setIfInBounds_toArray, List.set_cons_zero, List.set_cons_succ]
          refine wpAnyH_take (i := 5) (v := ?vb5) rfl (by kernel_rfl) (by kernel_rfl) (by kernel_rfl) (fun _ _ _ h => h) (Or.inl ⟨by rfl, ?hyb5⟩) (by assumption) ?_
          case hyb5 => intro w hSw; (try dsimp only at hSw); go_simp; try with_reducible rfl
          try simp only [List.getElem_toArray, List.getElem_cons_succ, List.getElem_cons_zero, Act.put, List.setIfInBounds_toArray, List.set_cons_zero, List.set_cons_succ]
          refine wpAnyH_take (i := 6) (v := ?vb6) rfl (by kernel_rfl) (by kernel_rfl) (by kernel_rfl) (fun _ _ _ h => h) (Or.inl ⟨by rfl, ?hyb6⟩) (by assumption) ?_
          case hyb6 => intro w hSw; (try dsimp only at hSw); go_simp; try with_reducible rfl
          try simp only [List.getElem_toArray, List.getElem_cons_succ, List.getElem_cons_zero, Act.put, List.setIfInBounds_toArray, List.set_cons_zero, List.set_cons_succ]
          refine wpAnyH_take (i := 8) (v := ?vb8) rfl (by kernel_rfl) (by kernel_rfl) (by kernel_rfl) (fun _ _ _ h => h) (Or.inl ⟨by rfl, ?hyb8⟩) (by assumption) ?_
          case hyb8 => intro w hSw; (try dsimp only at hSw); go_simp; try with_reducible rfl
          try simp only [List.getElem_toArray, List.getElem_cons_succ, List.getElem_cons_zero, Act.put, List.setIfInBounds_toArray, List.set_cons_zero, List.set_cons_succ]
          refine wpAnyH_take (i := 9) (v := ?vb9) rfl (by kernel_rfl) (by kernel_rfl) (by kernel_rfl) (fun _ _ _ h => h) (Or.inl ⟨by rfl, ?hyb9⟩) (by assumption) ?_
          case hyb9 => intro w hSw; (try dsimp only at hSw); go_simp; try with_reducible rfl
          try simp only [List.getElem_toArray, List.getElem_cons_succ, List.getElem_cons_zero, Act.put, List.setIfInBounds_toArray, List.set_cons_zero, List.set_cons_succ]
          refine wpAnyH_take (i := 10) (v := ?vb10) rfl (by kernel_rfl) (by kernel_rfl) (by kernel_rfl) (fun _ _ _ h => h) (Or.inl ⟨by rfl, ?hyb10⟩) (by assumption) ?_
          case hyb10 => intro w hSw; (try dsimp only at hSw); go_simp; try with_reducible rfl
          try simp only [List.getElem_toArray, List.getElem_cons_succ, List.getElem_cons_zero, Act.put, List.setIfInBounds_toArray, List.set_cons_zero, List.set_cons_succ]
          refine wpAnyH_take (i := 11) (v := ?vb11) rfl (by kernel_rfl) (by kernel_rfl) (by kernel_rfl) (fun _ _ _ h => h) (Or.inl ⟨by rfl, ?hyb11⟩) (by assumption) ?_
          case hyb11 => intro w hSw; (try dsimp only at hSw); go_simp; try with_reducible rfl
          try simp only [List.getElem_toArray, List.getElem_cons_succ, List.getElem_cons_zero, Act.put, List.setIfInBounds_toArray, List.set_cons_zero, List.set_cons_succ]
          refine wpAnyH_ready (rs := [7, 12]) (by kernel_rfl) (by simp) ?_
          refine AllReadyH.cons rfl (fun K hK => ?_) (AllReadyH.cons rfl (fun K hK => ?_) AllReadyH.nil)
          · skip
            go_simp
            refine hK.out _ _ hx0 (fun hHeld => ?_)
            clear hK K
            try simp only [List.getElem_toArray, List.getElem_cons_succ, List.getElem_cons_zero, Act.put, List.setIfInBounds_toArray, List.set_cons_zero, List.set_cons_succ]
            refine wpAnyH_ready (rs := [12]) (by kernel_rfl) (by simp) ?_
            refine AllReadyH.cons rfl (fun K hK => ?_) AllReadyH.nil
            go_simp
            refine hK.out _ _ (hall _).1 (fun hHeld => ?_)
            clear hK K
            try simp only [List.getElem_toArray, List.getElem_cons_succ, List.getElem_cons_zero, Act.put, List.setIfInBounds_toArray, List.set_cons_zero, List.set_cons_succ]
            refine wpAnyH_ready (rs := [13]) (by kernel_rfl) (by simp) ?_
            refine AllReadyH.cons rfl (fun K hK => ?_) AllReadyH.nil
            refine step_pushO strE rfl _ _ 22 rfl w.heap.size 9 i0 _ 16 Try.underlying22 hi hz0 HI.out.1 HI.out.2 rfl pA (1) pc l0 x rfl (hrowd.alloc _) wX.heap.size rfl (range_new _ _ _) (by omega) (by decide) (by simp; omega) ?_
            intro A7 c7 w7 hgl7 ht7 hn7
            have hx7 : w7.cell? ⟨b, off + k, none⟩ = some (.string x) := touch_cell ht7 (fun e => by have h9 := (hlow b e).1; omega) (hall _).1
            have hp7 : w7.cell? ⟨go, m' - 1, none⟩ = some (.slice pA (1) pc) := touch_cell ht7 (fun e => hap _ e rfl) (hall _).2
            have hf7 : w7.frozen? ⟨go, m' - 1, none⟩ = false := free_touch (p := ⟨go, m' - 1, none⟩) (free_later hfz hgo hA) (by simp; omega) (fun e => hap _ e rfl) ht7
            refine hK.out _ _ hx7 (fun hHeld => ?_)
            clear hK K
            try simp only [List.getElem_toArray, List.getElem_cons_succ, List.getElem_cons_zero, Act.put, List.setIfInBounds_toArray, List.set_cons_zero, List.set_cons_succ]
            refine wpAnyH_ready (rs := [14]) (by kernel_rfl) (by simp) ?_
            refine AllReadyH.cons rfl (fun K hK => ?_) AllReadyH.nil
            go_simp
            refine hK.out _ _ hx7 (fun hHeld => ?_)
            clear hK K
            try simp only [List.getElem_toArray, List.getElem_cons_succ, List.getElem_cons_zero, Act.put, List.setIfInBounds_toArray, List.set_cons_zero, List.set_cons_succ]
            refine wpAnyH_ready (rs := [15]) (by kernel_rfl) (by simp) ?_
            refine AllReadyH.cons rfl (fun K hK => ?_) AllReadyH.nil
            go_simp
            refine hK.out _ _ ((World.cell?_setCell_other _ _ _ _ hne7).trans hx7) (fun hHeld => ?_)
            clear hK K
            try simp only [List.getElem_toArray, List.getElem_cons_succ, List.getElem_cons_zero, Act.put, List.setIfInBounds_toArray, List.set_cons_zero, List.set_cons_succ]
            refine wpAnyH_done (by kernel_rfl) ?_ _
            have hN2' : Below w.heap.size w w7 := Below.touch (hbX.trans (hA.mono hbX.size)) ht7 (fun j hj => (hlow j hj).1) (by have := hA.size; omega)
            have hN3 := hN2'.setCell (p := ⟨go, m' - 1, none⟩) (show w.heap.size ≤ go from (HGx.out.lt go rfl).1) (.slice A7 (1 + 1) c7)
            obtain ⟨r1, r2⟩ := PgW.grow (p := ⟨pA, 1, pc⟩) (p' := ⟨A7, 1 + 1, c7⟩) (HGx.out.below hA) (HPx.out.below hA) (by rw [hL0]; exact HK.out) hgl7 ht7 hn7
            rw [hL0] at r1 r2
            rw [← HPG.out] at r2
            have HR1 := Lib.hid r1
            have HR2 := Lib.hid r2
            clear r1 r2 hgl7 ht7 hn7 hx7 hp7 hf7 hall hx0 hp0 hN2' hA hd0 hal
            go_wp2
            first | (refine ⟨⟨k + 1, _, m', d2, psX.set (m' - 1) ⟨A7, 1 + 1, c7⟩, by omega, by go_num, rfl, by omega, HR1, HR2, hN3⟩, ?_⟩; (simp [intOf]; omega)) | (go_roundw; (case rel => first | exact ⟨k + 1, _, m', d2, psX.set (m' - 1) ⟨A7, 1 + 1, c7⟩, by omega, by go_num, rfl, by omega, HR1, HR2, hN3⟩ | ((try refine ⟨trivial, ?_⟩); (repeat apply Exists.intro); exact ⟨⟨k + 1, _, m', d2, psX.set (m' - 1) ⟨A7, 1 + 1, c7⟩, by omega, by go_num, rfl, by omega, HR1, HR2, hN3⟩, rfl⟩)); (case measure => (simp [intOf]; omega)))
          · skip
            go_simp
            refine hK.out _ _ (hall _).1 (fun hHeld => ?_)
            clear hK K
            try simp only [List.getElem_toArray, List.getElem_cons_succ, List.getElem_cons_zero, Act.put, List.setIfInBounds_toArray, List.set_cons_zero, List.set_cons_succ]
            refine wpAnyH_ready (rs := [7]) (by kernel_rfl) (by simp) ?_
            refine AllReadyH.cons rfl (fun K hK => ?_) AllReadyH.nil
            go_simp
            refine hK.out _ _ (hall _).1 (fun hHeld => ?_)
            clear hK K
            try simp only [List.getElem_toArray, List.getElem_cons_succ, List.getElem_cons_zero, Act.put, List.setIfInBounds_toArray, List.set_cons_zero, List.set_cons_succ]
            refine wpAnyH_ready (rs := [13]) (by kernel_rfl) (by simp) ?_
            refine AllReadyH.cons rfl (fun K hK => ?_) AllReadyH.nil
            refine step_pushO strE rfl _ _ 22 rfl w.heap.size 9 i0 _ 16 Try.underlying22 hi hz0 HI.out.1 HI.out.2 rfl pA (1) pc l0 x rfl (hrowd.alloc _) wX.heap.size rfl (range_new _ _ _) (by omega) (by decide) (by simp; omega) ?_
            intro A7 c7 w7 hgl7 ht7 hn7
            have hx7 : w7.cell? ⟨b, off + k, none⟩ = some (.string x) := touch_cell ht7 (fun e => by have h9 := (hlow b e).1; omega) (hall _).1
            have hp7 : w7.cell? ⟨go, m' - 1, none⟩ = some (.slice pA (1) pc) := touch_cell ht7 (fun e => hap _ e rfl) (hall _).2
            have hf7 : w7.frozen? ⟨go, m' - 1, none⟩ = false := free_touch (p := ⟨go, m' - 1, none⟩) (free_later hfz hgo hA) (by simp; omega) (fun e => hap _ e rfl) ht7
            refine hK.out _ _ hx7 (fun hHeld => ?_)
            clear hK K
            try simp only [List.getElem_toArray, List.getElem_cons_succ, List.getElem_cons_zero, Act.put, List.setIfInBounds_toArray, List.set_cons_zero, List.set_cons_succ]
            refine wpAnyH_ready (rs := [14]) (by kernel_rfl) (by simp) ?_
            refine AllReadyH.cons rfl (fun K hK => ?_) AllReadyH.nil
            go_simp
            refine hK.out _ _ hx7 (fun hHeld => ?_)
            clear hK K
            try simp only [List.getElem_toArray, List.getElem_cons_succ, List.getElem_cons_zero, Act.put, List.setIfInBounds_toArray, List.set_cons_zero, List.set_cons_succ]
            refine wpAnyH_ready (rs := [15]) (by kernel_rfl) (by simp) ?_
            refine AllReadyH.cons rfl (fun K hK => ?_) AllReadyH.nil
            go_simp
            refine hK.out _ _ ((World.cell?_setCell_other _ _ _ _ hne7).trans hx7) (fun hHeld => ?_)
            clear hK K
            try simp only [List.getElem_toArray, List.getElem_cons_succ, List.getElem_cons_zero, Act.put, List.setIfInBounds_toArray, List.set_cons_zero, List.set_cons_succ]
            refine wpAnyH_done (by kernel_rfl) ?_ _
            have hN2' : Below w.heap.size w w7 := Below.touch (hbX.trans (hA.mono hbX.size)) ht7 (fun j hj => (hlow j hj).1) (by have := hA.size; omega)
            have hN3 := hN2'.setCell (p := ⟨go, m' - 1, none⟩) (show w.heap.size ≤ go from (HGx.out.lt go rfl).1) (.slice A7 (1 + 1) c7)
            obtain ⟨r1, r2⟩ := PgW.grow (p := ⟨pA, 1, pc⟩) (p' := ⟨A7, 1 + 1, c7⟩) (HGx.out.below hA) (HPx.out.below hA) (by rw [hL0]; exact HK.out) hgl7 ht7 hn7
            rw [hL0] at r1 r2
            rw [← HPG.out] at r2
            have HR1 := Lib.hid r1
            have HR2 := Lib.hid r2
            clear r1 r2 hgl7 ht7 hn7 hx7 hp7 hf7 hall hx0 hp0 hN2' hA hd0 hal
            go_wp2
            first | (refine ⟨⟨k + 1, _, m', d2, psX.set (m' - 1) ⟨A7, 1 + 1, c7⟩, by omega, by go_num, rfl, by omega, HR1, HR2, hN3⟩, ?_⟩; (simp [intOf]; omega)) | (go_roundw; (case rel => first | exact ⟨k + 1, _, m', d2, psX.set (m' - 1) ⟨A7, 1 + 1, c7⟩, by omega, by go_num, rfl, by omega, HR1, HR2, hN3⟩ | ((try refine ⟨trivial, ?_⟩); (repeat apply Exists.intro); exact ⟨⟨k + 1, _, m', d2, psX.set (m' - 1) ⟨A7, 1 + 1, c7⟩, by omega, by go_num, rfl, by omega, HR1, HR2, hN3⟩, rfl⟩)); (case measure => (simp [intOf]; omega)))
        · skip
          have hnq : n = q := by rw [hnl, hqr, show r = 0 by omega, Nat.add_zero, pageCount_full hm1]
          obtain ⟨go, hgoB⟩ := HG.out.place (by omega)
          subst hgoB
          obtain ⟨⟨pA, pn, pc⟩, hpt⟩ : ∃ p, ps[n - 1]? = some p := get_ex (by rw [HG.out.len]; omega)
          have hpl : pn = m + 1 := by
            have hg2 : (pagesB hd m (ss.take k))[n - 1]? = some (pageAt hd m (ss.take k) (n - 1)) := by
              unfold pagesB
              rw [List.getElem?_map, List.getElem?_range (by rw [hl1, ← hnl]; omega)]
              rfl
            have h1 := (HP.out.row (n - 1) _ _ hpt hg2).len
            have h2 := page_full hd (m := m) (q := n - 1) (L := ss.take k) (by rw [hl1, hqr, hnq, show q - 1 + 1 = q by omega]; omega)
            simp only at h1
            omega
          subst hpl
          have hcell := HG.out.range (n - 1)
          rw [drop_of_get hpt] at hcell
          have hp0' := hcell 0 (.slice pA (m + 1) pc) rfl
          simp only [slE, Nat.mul_one, Nat.add_zero] at hp0'
          have hq0 : ((n : Int) == 0) = false := by rw [beq_eq_false_iff_ne]; omega
          have hn1' : 1 ≤ n := by omega
          have hq1 : (((m + 1 : Nat) : Int) == (m : Int) + 1) = true := by rw [beq_iff_eq]; omega
          have hq2 : ((m : Int) + 1 == (m : Int) + 1) = true := by rw [beq_iff_eq]
          clear hcell hpt hnq
          have hN0 : GL strE 9 w.heap.size (wr.alloc (.cells #[.string hd] 9)) (.slice (some ⟨wr.heap.size, 0, none⟩) 1 1) [hd] := GL.one hd hb.size
          have hb2 : Below w.heap.size w ((wr.alloc (.cells #[.string hd] 9)).alloc (.cells #[.slice (some ⟨wr.heap.size, 0, none⟩) 1 1] 22)) := (hb.alloc hb.size _).alloc (by have := hb.size; simp; omega) _
          have hr2 : Below wr.heap.size wr ((wr.alloc (.cells #[.string hd] 9)).alloc (.cells #[.slice (some ⟨wr.heap.size, 0, none⟩) 1 1] 22)) := ((Below.refl _ _).alloc (Nat.le_refl _) _).alloc (by simp) _
          have hsz := hb.size
          have hown := HG.out.lt
          have HNL := Lib.hid hnl
          have HQR := Lib.hid hqr
          have HQ := Lib.hid hq
          clear hnl hqr hq
          go_wp2_with (at_builtin; refine wpList_pushO slE rfl (.tmp 43) (.tmp 46) 24 rfl w.heap.size 22 j0 _ 24 Try.underlying24 gi gz0 GI.out.1 GI.out.2 rfl _ n d ps ⟨some ⟨wr.heap.size, 0, none⟩, 1, 1⟩ rfl ((HG.out.alloc _).alloc _) (wr.heap.size + 1) rfl (range_new' _ _ _ (by simp)) (by omega) (by decide) (by simp; omega) ?_; intro B2 d2 wX hgl4 ht4 hn4)
          have hnl := HNL.out
          have hqr := HQR.out
          have hq := HQ.out
          have hadd := PgW.add (HP.out.below hr2) ⟨some ⟨wr.heap.size, 0, none⟩, 1, 1⟩ [hd] (hN0.alloc _) (fun j h1 h2 => by cases h1; have h9 := (hown _ h2).2; simp only at h9; omega) (fun j q hq i h1 h2 => by
            cases h1
            obtain ⟨s, hs'⟩ : ∃ s, (pagesB hd m (ss.take k))[j]? = some s := get_ex (by rw [← HP.out.len]; exact get_lt hq)
            have h9 := ((HP.out.row j q s hq hs').lt _ h2).2
            simp only at h9
            omega) ht4 hn4
          have hbX : Below w.heap.size w wX := Below.touch hb2 ht4 (fun j hj => (hown j hj).1) hb2.size
          have hbX' := hbX
          have HPG : Hid (pagesB hd m (ss.take (k + 1)) = pagesB hd m (ss.take k) ++ [[hd] ++ [x]]) := Lib.hid (by rw [take_of_get HX.out]; exact pages_new hd x hm1 (by rw [hl1, hqr, show r = 0 by omega, Nat.add_zero]))
          obtain ⟨m', hm'⟩ : ∃ m', n + 1 = m' := ⟨_, rfl⟩
          have hmi : (n : Int) + 1 = (m' : Int) := by omega
          have hL0 : (pagesB hd m (ss.take k)).length = m' - 1 := by rw [pages_len, hl1, ← hnl]; omega
          obtain ⟨L0, hL0e⟩ : ∃ L0, pagesB hd m (ss.take k) = L0 := ⟨_, rfl⟩
          rw [hL0e] at hadd HPG hL0
          rw [hm'] at hgl4 hadd
          obtain ⟨psX, hpsX⟩ : ∃ p, ps ++ [⟨some ⟨wr.heap.size, 0, none⟩, 1, 1⟩] = p := ⟨_, rfl⟩
          rw [hpsX] at hgl4 hadd
          obtain ⟨l0, hl0⟩ : ∃ l, [hd] = l := ⟨_, rfl⟩
          have hll : l0.length = 1 := by rw [← hl0]; rfl
          rw [hl0] at hadd HPG
          have HGx := Lib.hid hgl4
          have HPx := Lib.hid hadd
          have hn1 : 1 ≤ m' := by omega
          have hmk : m' ≤ k + 1 := by omega
          rw [hmi, hm']
          clear hN0 hb2 hr2 hown hgl4 ht4 hn4 hadd HG HP hL0e hpsX hl0 hmi hm' hnl HNL HQR HQ hqr hq hl1 hr0 hnk hb hsz hrm
          obtain ⟨go, hgoB⟩ := HGx.out.place (by omega)
          subst hgoB
          obtain ⟨⟨pA, pn, pc⟩, hpt⟩ : ∃ p, psX[m' - 1]? = some p := get_ex (by rw [HGx.out.len]; omega)
          have hrow := HPx.out.row (m' - 1) _ l0 hpt (by rw [← hL0]; simp)
          have hcell := HGx.out.range (m' - 1)
          rw [drop_of_get hpt] at hcell
          have hp0 := hcell 0 (.slice pA pn pc) rfl
          simp only [slE, Nat.mul_one, Nat.add_zero] at hp0 hrow
          have hpl : pn = 1 := by rw [← hrow.len]; exact hll
          subst hpl
          have hfz := HGx.out.free (m' - 1)
          have hx0 := cell_later hbX' hc0
          have hlow := hrow.lt
          have hrowd := hrow.drew
          have hap := HPx.out.out (m' - 1) _ hpt
          simp only at hap
          have HK := Lib.hid hpt
          have hsX := hbX.size
          have hgo : go < wX.heap.size := (HGx.out.lt go rfl).2
          have hbl : b < wX.heap.size := World.block_lt_of_cell? wX _ hx0
          have hbw : b < w.heap.size := World.block_lt_of_cell? w _ hc0
          have hall : ∀ o, (wX.drew.alloc o).cell? ⟨b, off + k, none⟩ = some (.string x) ∧ (wX.drew.alloc o).cell? ⟨go, m' - 1, none⟩ = some (.slice pA (1) pc) := fun o => ⟨(World.cell?_alloc_lt wX o _ hbl).trans hx0, (World.cell?_alloc_lt wX o _ hgo).trans hp0⟩
          clear hcell hpt hrow
          have hwr : IntKind.i64.wrap ((m' : Int) - 1) = ((m' - 1 : Nat) : Int) := by rw [IntKind.wrap_i64]; omega
          have hi1 : ((m' - 1 : Nat) : Int) < (m' : Int) := by omega
          have hi2 : (0 : Int) ≤ ((m' - 1 : Nat) : Int) := by omega
          have hi3 : (k : Int) < (N : Int) := by omega
          have hi4 : m' - 1 < m' := by omega
          have hd0 : wX.drew.cell? ⟨go, m' - 1, none⟩ = some (.slice pA (1) pc) := hp0
          have hne7 : (⟨go, m' - 1, none⟩ : Addr) ≠ ⟨b, off + k, none⟩ := fun e => by have h1 := congrArg Addr.block e; simp only at h1; have h2 := (HGx.out.lt go rfl).1; omega
          have hal : ∀ o, (wX.drew.alloc o).cell? ⟨go, m' - 1, none⟩ = some (.slice pA (1) pc) := fun o => (hall o).2
          have hA : Below wX.heap.size wX (wX.drew.alloc (.cells #[.string x] 9)) := (Below.refl _ _).drew.alloc (Nat.le_refl _) _
          refine wp_region_held_drew (S := fun w' => w'.cell? ⟨b, off + k, none⟩ = some (.string x)) (by kernel_rfl) hx0 (fun hHeld => ?_)
          refine wpAnyH_take (i := 0) (v := ?vc0) rfl (by kernel_rfl) (by kernel_rfl) (by kernel_rfl) (fun _ _ _ h => h) (Or.inl ⟨by rfl, ?hyc0⟩) (by assumption) ?_
          case hyc0 => intro w hSw; (try dsimp only at hSw); go_simp; try with_reducible rfl
          try simp only [List.getElem_toArray, List.getElem_cons_succ, List.getElem_cons_zero, Act.put, List.setIfInBounds_toArray, List.set_cons_zero, List.set_cons_succ]
          refine wpAnyH_take (i := 1) (v := ?vc1) rfl (by kernel_rfl) (by kernel_rfl) (by kernel_rfl) (fun _ _ _ h => h) (Or.inl ⟨by rfl, ?hyc1⟩) (by assumption) ?_
          case hyc1 => intro w hSw; (try dsimp only at hSw); go_simp; try with_reducible rfl
          try simp only [List.getElem_toArray, List.getElem_cons_succ, List.getElem_cons_zero, Act.put, List.setIfInBounds_toArray, List.set_cons_zero, List.set_cons_succ]
          refine wpAnyH_take (i := 2) (v := ?vc2) rfl (by kernel_rfl) (by kernel_rfl) (by kernel_rfl) (fun _ _ _ h => h) (Or.inl ⟨by rfl, ?hyc2⟩) (by assumption) ?_
          case hyc2 => intro w hSw; (try dsimp only at hSw); go_simp; try with_reducible rfl
          try simp only [List.getElem_toArray, List.getElem_cons_succ, List.getElem_cons_zero, Act.put, List.setIfInBounds_toArray, List.set_cons_zero, List.set_cons_succ]
          refine wpAnyH_take (i := 3) (v := ?vc3) rfl (by kernel_rfl) (by kernel_rfl) (by kernel_rfl) (fun _ _ _ h => h) (Or.inl ⟨by rfl, ?hyc3⟩) (by assumption) ?_
          case hyc3 => intro w hSw; (try dsimp only at hSw); go_simp; try with_reducible rfl
          try simp only [List.getElem_toArray, List.getElem_cons_succ, List.getElem_cons_zero, Act.put, List.setIfInBounds_toArray, List.set_cons_zero, List.set_cons_succ]
          refine wpAnyH_take (i := 4) (v := ?vc4) rfl (by kernel_rfl) (by kernel_rfl) (by kernel_rfl) (fun _ _ _ h => h) (Or.inl ⟨by rfl, ?hyc4⟩) (by assumption) ?_
          case hyc4 => intro w hSw; (try dsimp only at hSw); go_simp; try with_reducible rfl
          try simp only [List.getElem_toArray, List.getElem_cons_succ, List.getElem_cons_zero, Act.put, List.setIfInBounds_toArray, List.set_cons_zero, List.set_cons_succ]
          refine wpAnyH_take (i := 5) (v := ?vc5) rfl (by kernel_rfl) (by kernel_rfl) (by kernel_rfl) (fun _ _ _ h => h) (Or.inl ⟨by rfl, ?hyc5⟩) (by assumption) ?_
          case hyc5 => intro w hSw; (try dsimp only at hSw); go_simp; try with_reducible rfl
          try simp only [List.getElem_toArray, List.getElem_cons_succ, List.getElem_cons_zero, Act.put, List.setIfInBounds_toArray, List.set_cons_zero, List.set_cons_succ]
          refine wpAnyH_take (i := 6) (v := ?vc6) rfl (by kernel_rfl) (by kernel_rfl) (by kernel_rfl) (fun _ _ _ h => h) (Or.inl ⟨by rfl, ?hyc6⟩) (by assumption) ?_
          case hyc6 => intro w hSw; (try dsimp only at hSw); go_simp; try with_reducible rfl
          try simp only [List.getElem_toArray, List.getElem_cons_succ, List.getElem_cons_zero, Act.put, List.setIfInBounds_toArray, List.set_cons_zero, List.set_cons_succ]
          refine wpAnyH_take (i := 8) (v := ?vc8) rfl (by kernel_rfl) (by kernel_rfl) (by kernel_rfl) (fun _ _ _ h => h) (Or.inl ⟨by rfl, ?hyc8⟩) (by assumption) ?_
          case hyc8 => intro w hSw; (try dsimp only at hSw); go_simp; try with_reducible rfl
          try simp only [List.getElem_toArray, List.getElem_cons_succ, List.getElem_cons_zero, Act.put, List.setIfInBounds_toArray, List.set_cons_zero, List.set_cons_succ]
          refine wpAnyH_take (i := 9) (v := ?vc9) rfl (by kernel_rfl) (by kernel_rfl) (by kernel_rfl) (fun _ _ _ h => h) (Or.inl ⟨by rfl, ?hyc9⟩) (by assumption) ?_
          case hyc9 => intro w hSw; (try dsimp only at hSw); go_simp; try with_reducible rfl
          try simp only [List.getElem_toArray, List.getElem_cons_succ, List.getElem_cons_zero, Act.put, List.setIfInBounds_toArray, List.set_cons_zero, List.set_cons_succ]
          refine wpAnyH_take (i := 10) (v := ?vc10) rfl (by kernel_rfl) (by kernel_rfl) (by kernel_rfl) (fun _ _ _ h => h) (Or.inl ⟨by rfl, ?hyc10⟩) (by assumption) ?_
          case hyc10 => intro w hSw; (try dsimp only at hSw); go_simp; try with_reducible rfl
          try simp only [List.getElem_toArray, List.getElem_cons_succ, List.getElem_cons_zero, Act.put, List.setIfInBounds_toArray, List.set_cons_zero, List.set_cons_succ]
          refine wpAnyH_take (i := 11) (v := ?vc11) rfl (by kernel_rfl) (by kernel_rfl) (by kernel_rfl) (fun _ _ _ h => h) (Or.inl ⟨by rfl, ?hyc11⟩) (by assumption) ?_
          case hyc11 => intro w hSw; (try dsimp only at hSw); go_simp; try with_reducible rfl
          try simp only [List.getElem_toArray, List.getElem_cons_succ, List.getElem_cons_zero, Act.put, List.setIfInBounds_toArray, List.set_cons_zero, List.set_cons_succ]
          refine wpAnyH_ready (rs := [7, 12]) (by kernel_rfl) (by simp) ?_
          refine AllReadyH.cons rfl (fun K hK => ?_) (AllReadyH.cons rfl (fun K hK => ?_) AllReadyH.nil)
          · skip
            go_simp
            refine hK.out _ _ hx0 (fun hHeld => ?_)
            clear hK K
            try simp only [List.getElem_toArray, List.getElem_cons_succ, List.getElem_cons_zero, Act.put, List.setIfInBounds_toArray, List.set_cons_zero, List.set_cons_succ]
            refine wpAnyH_ready (rs := [12]) (by kernel_rfl) (by simp) ?_
            refine AllReadyH.cons rfl (fun K hK => ?_) AllReadyH.nil
            go_simp
            refine hK.out _ _ (hall _).1 (fun hHeld => ?_)
            clear hK K
            try simp only [List.getElem_toArray, List.getElem_cons_succ, List.getElem_cons_zero, Act.put, List.setIfInBounds_toArray, List.set_cons_zero, List.set_cons_succ]
            refine wpAnyH_ready (rs := [13]) (by kernel_rfl) (by simp) ?_
            refine AllReadyH.cons rfl (fun K hK => ?_) AllReadyH.nil
            refine step_pushO strE rfl _ _ 22 rfl w.heap.size 9 i0 _ 16 Try.underlying22 hi hz0 HI.out.1 HI.out.2 rfl pA (1) pc l0 x rfl (hrowd.alloc _) wX.heap.size rfl (range_new _ _ _) (by omega) (by decide) (by simp; omega) ?_
            intro A7 c7 w7 hgl7 ht7 hn7
            have hx7 : w7.cell? ⟨b, off + k, none⟩ = some (.string x) := touch_cell ht7 (fun e => by have h9 := (hlow b e).1; omega) (hall _).1
            have hp7 : w7.cell? ⟨go, m' - 1, none⟩ = some (.slice pA (1) pc) := touch_cell ht7 (fun e => hap _ e rfl) (hall _).2
            have hf7 : w7.frozen? ⟨go, m' - 1, none⟩ = false := free_touch (p := ⟨go, m' - 1, none⟩) (free_later hfz hgo hA) (by simp; omega) (fun e => hap _ e rfl) ht7
            refine hK.out _ _ hx7 (fun hHeld => ?_)
            clear hK K
            try simp only [List.getElem_toArray, List.getElem_cons_succ, List.getElem_cons_zero, Act.put, List.setIfInBounds_toArray, List.set_cons_zero, List.set_cons_succ]
            refine wpAnyH_ready (rs := [14]) (by kernel_rfl) (by simp) ?_
            refine AllReadyH.cons rfl (fun K hK => ?_) AllReadyH.nil
            go_simp
            refine hK.out _ _ hx7 (fun hHeld => ?_)
            clear hK K
            try simp only [List.getElem_toArray, List.getElem_cons_succ, List.getElem_cons_zero, Act.put, List.setIfInBounds_toArray, List.set_cons_zero, List.set_cons_succ]
            refine wpAnyH_ready (rs := [15]) (by kernel_rfl) (by simp) ?_
            refine AllReadyH.cons rfl (fun K hK => ?_) AllReadyH.nil
            go_simp
            refine hK.out _ _ ((World.cell?_setCell_other _ _ _ _ hne7).trans hx7) (fun hHeld => ?_)
            clear hK K
            try simp only [List.getElem_toArray, List.getElem_cons_succ, List.getElem_cons_zero, Act.put, List.setIfInBounds_toArray, List.set_cons_zero, List.set_cons_succ]
            refine wpAnyH_done (by kernel_rfl) ?_ _
            have hN2' : Below w.heap.size w w7 := Below.touch (hbX.trans (hA.mono hbX.size)) ht7 (fun j hj => (hlow j hj).1) (by have := hA.size; omega)
            have hN3 := hN2'.setCell (p := ⟨go, m' - 1, none⟩) (show w.heap.size ≤ go from (HGx.out.lt go rfl).1) (.slice A7 (1 + 1) c7)
            obtain ⟨r1, r2⟩ := PgW.grow (p := ⟨pA, 1, pc⟩) (p' := ⟨A7, 1 + 1, c7⟩) (HGx.out.below hA) (HPx.out.below hA) (by rw [hL0]; exact HK.out) hgl7 ht7 hn7
            rw [hL0] at r1 r2
            rw [← HPG.out] at r2
            have HR1 := Lib.hid r1
            have HR2 := Lib.hid r2
            clear r1 r2 hgl7 ht7 hn7 hx7 hp7 hf7 hall hx0 hp0 hN2' hA hd0 hal
            go_wp2
            first | (refine ⟨⟨k + 1, _, m', d2, psX.set (m' - 1) ⟨A7, 1 + 1, c7⟩, by omega, by go_num, rfl, by omega, HR1, HR2, hN3⟩, ?_⟩; (simp [intOf]; omega)) | (go_roundw; (case rel => first | exact ⟨k + 1, _, m', d2, psX.set (m' - 1) ⟨A7, 1 + 1, c7⟩, by omega, by go_num, rfl, by omega, HR1, HR2, hN3⟩ | ((try refine ⟨trivial, ?_⟩); (repeat apply Exists.intro); exact ⟨⟨k + 1, _, m', d2, psX.set (m' - 1) ⟨A7, 1 + 1, c7⟩, by omega, by go_num, rfl, by omega, HR1, HR2, hN3⟩, rfl⟩)); (case measure => (simp [intOf]; omega)))
          · skip
            go_simp
            refine hK.out _ _ (hall _).1 (fun hHeld => ?_)
            clear hK K
            try simp only [List.getElem_toArray, List.getElem_cons_succ, List.getElem_cons_zero, Act.put, List.setIfInBounds_toArray, List.set_cons_zero, List.set_cons_succ]
            refine wpAnyH_ready (rs := [7]) (by kernel_rfl) (by simp) ?_
            refine AllReadyH.cons rfl (fun K hK => ?_) AllReadyH.nil
            go_simp
            refine hK.out _ _ (hall _).1 (fun hHeld => ?_)
            clear hK K
            try simp only [List.getElem_toArray, List.getElem_cons_succ, List.getElem_cons_zero, Act.put, List.setIfInBounds_toArray, List.set_cons_zero, List.set_cons_succ]
            refine wpAnyH_ready (rs := [13]) (by kernel_rfl) (by simp) ?_
            refine AllReadyH.cons rfl (fun K hK => ?_) AllReadyH.nil
            refine step_pushO strE rfl _ _ 22 rfl w.heap.size 9 i0 _ 16 Try.underlying22 hi hz0 HI.out.1 HI.out.2 rfl pA (1) pc l0 x rfl (hrowd.alloc _) wX.heap.size rfl (range_new _ _ _) (by omega) (by decide) (by simp; omega) ?_
            intro A7 c7 w7 hgl7 ht7 hn7
            have hx7 : w7.cell? ⟨b, off + k, none⟩ = some (.string x) := touch_cell ht7 (fun e => by have h9 := (hlow b e).1; omega) (hall _).1
            have hp7 : w7.cell? ⟨go, m' - 1, none⟩ = some (.slice pA (1) pc) := touch_cell ht7 (fun e => hap _ e rfl) (hall _).2
            have hf7 : w7.frozen? ⟨go, m' - 1, none⟩ = false := free_touch (p := ⟨go, m' - 1, none⟩) (free_later hfz hgo hA) (by simp; omega) (fun e => hap _ e rfl) ht7
            refine hK.out _ _ hx7 (fun hHeld => ?_)
            clear hK K
            try simp only [List.getElem_toArray, List.getElem_cons_succ, List.getElem_cons_zero, Act.put, List.setIfInBounds_toArray, List.set_cons_zero, List.set_cons_succ]
            refine wpAnyH_ready (rs := [14]) (by kernel_rfl) (by simp) ?_
            refine AllReadyH.cons rfl (fun K hK => ?_) AllReadyH.nil
            go_simp
            refine hK.out _ _ hx7 (fun hHeld => ?_)
            clear hK K
            try simp only [List.getElem_toArray, List.getElem_cons_succ, List.getElem_cons_zero, Act.put, List.setIfInBounds_toArray, List.set_cons_zero, List.set_cons_succ]
            refine wpAnyH_ready (rs := [15]) (by kernel_rfl) (by simp) ?_
            refine AllReadyH.cons rfl (fun K hK => ?_) AllReadyH.nil
            go_simp
            refine hK.out _ _ ((World.cell?_setCell_other _ _ _ _ hne7).trans hx7) (fun hHeld => ?_)
            clear hK K
            try simp only [List.getElem_toArray, List.getElem_cons_succ, List.getElem_cons_zero, Act.put, List.setIfInBounds_toArray, List.set_cons_zero, List.set_cons_succ]
            refine wpAnyH_done (by kernel_rfl) ?_ _
            have hN2' : Below w.heap.size w w7 := Below.touch (hbX.trans (hA.mono hbX.size)) ht7 (fun j hj => (hlow j hj).1) (by have := hA.size; omega)
            have hN3 := hN2'.setCell (p := ⟨go, m' - 1, none⟩) (show w.heap.size ≤ go from (HGx.out.lt go rfl).1) (.slice A7 (1 + 1) c7)
            obtain ⟨r1, r2⟩ := PgW.grow (p := ⟨pA, 1, pc⟩) (p' := ⟨A7, 1 + 1, c7⟩) (HGx.out.below hA) (HPx.out.below hA) (by rw [hL0]; exact HK.out) hgl7 ht7 hn7
            rw [hL0] at r1 r2
            rw [← HPG.out] at r2
            have HR1 := Lib.hid r1
            have HR2 := Lib.hid r2
            clear r1 r2 hgl7 ht7 hn7 hx7 hp7 hf7 hall hx0 hp0 hN2' hA hd0 hal
            go_wp2
            first | (refine ⟨⟨k + 1, _, m', d2, psX.set (m' - 1) ⟨A7, 1 + 1, c7⟩, by omega, by go_num, rfl, by omega, HR1, HR2, hN3⟩, ?_⟩; (simp [intOf]; omega)) | (go_roundw; (case rel => first | exact ⟨k + 1, _, m', d2, psX.set (m' - 1) ⟨A7, 1 + 1, c7⟩, by omega, by go_num, rfl, by omega, HR1, HR2, hN3⟩ | ((try refine ⟨trivial, ?_⟩); (repeat apply Exists.intro); exact ⟨⟨k + 1, _, m', d2, psX.set (m' - 1) ⟨A7, 1 + 1, c7⟩, by omega, by go_num, rfl, by omega, HR1, HR2, hN3⟩, rfl⟩)); (case measure => (simp [intOf]; omega)))
    · obtain rfl : k = N := by omega
      have HF : Hid (pagesB hd m (ss.take k) = pgV ss ((m : Int) + 1) hd) := Lib.hid (by rw [List.take_of_length_le (by rw [HL.out]; exact Nat.le_refl _)]; exact E.out.1.symm)
      have hn2 : n ≤ 1048576 := by omega
      go_wp2
      go_ret2
      exact ⟨B, n, d, ps, by rw [← HF.out, ← HP.out.len]; exact HG.out.len, hn2, HG.out, by rw [← HF.out]; exact HP.out, by rw [E.out.2]; rfl, hb⟩
end Go.Proofs.Ytlnhjjcficoldaa

/- The lines that hold no block: both sides. -/
import Derived.Test.YtnbeomceiealdaaDoorRows
import Derived.Test.YtnbeomceiealdaaDoorParse
import Derived.Test.YtnbeomceiealdaaDoorTwo
namespace Go.Proofs.YtnbeomceiealdaaDoor
set_option linter.unusedVariables false
set_option linter.unusedSimpArgs false
set_option linter.unusedSectionVars false
open Go.RowKit

theorem cuts_small {s x : ByteArray} (h : x ∈ cutsB 10 s) : x.size ≤ s.size := by
  unfold cutsB at h
  obtain ⟨l, hl, rfl⟩ := List.mem_map.1 h
  rw [ofL_size]
  have := cuts_sub hl
  rw [show s.data.toList = bl s from rfl, bl_size] at this
  exact this
def lineAt (W : List ByteArray) (i : Nat) : ByteArray := W.getD i ⟨#[]⟩
theorem lineAt_get {W : List ByteArray} {i : Nat} {x : ByteArray} (h : W[i]? = some x) : lineAt W i = x := by unfold lineAt; rw [List.getD_eq_getElem?_getD, h]; rfl
theorem codeP_vals (l : List UInt8) : codeP l = 0 ∨ codeP l = 9 ∨ codeP l = 10 := by
  unfold codeP
  split
  · split
    · split
      · exact .inl rfl
      · exact .inr (.inl rfl)
    · exact .inr (.inr rfl)
  · exact .inr (.inl rfl)
def damT (W : List ByteArray) (k : Nat) : List Int := ((List.range k).filter fun i => decide (1 ≤ i ∧ codeP (bl (lineAt W i)) ≠ 0)).map fun (i : Nat) => (i : Int) + 1
theorem dam_out {W : List ByteArray} {k : Nat} {x : ByteArray} (hx : W[k]? = some x) (h : k = 0 ∨ codeP (bl x) = 0) : damT W (k + 1) = damT W k := by
  unfold damT
  rw [List.range_succ, List.filter_append]
  have : (decide (1 ≤ k ∧ codeP (bl (lineAt W k)) ≠ 0)) = false := by
    rw [lineAt_get hx, decide_eq_false_iff_not]
    rintro ⟨h1, h2⟩
    rcases h with h | h
    · omega
    · exact h2 h
  simp only [List.filter_cons, this, Bool.false_eq_true, if_false, List.filter_nil, List.append_nil]
theorem dam_in {W : List ByteArray} {k : Nat} {x : ByteArray} (hx : W[k]? = some x) (h1 : 1 ≤ k) (h : codeP (bl x) ≠ 0) : damT W (k + 1) = damT W k ++ [(k : Int) + 1] := by
  unfold damT
  rw [List.range_succ, List.filter_append]
  have : (decide (1 ≤ k ∧ codeP (bl (lineAt W k)) ≠ 0)) = true := by rw [lineAt_get hx, decide_eq_true_eq]; exact ⟨h1, h⟩
  simp only [List.filter_cons, this, if_true, List.filter_nil, List.map_append, List.map_cons, List.map_nil]
theorem dam_one (W : List ByteArray) : damT W 1 = [] := by simp [damT, List.range_succ]
theorem dam_len (W : List ByteArray) (k : Nat) : (damT W k).length ≤ k := by
  unfold damT
  rw [List.length_map]
  exact Nat.le_trans (List.length_filter_le _ _) (by simp)
def damW (W : List ByteArray) (m : Nat) : List Int := damT W m ++ (if (lineAt W m).toList == [] then [] else [(m : Int) + 1])
def damL (s : ByteArray) : List Int := damW (cutsB 10 s) ((cutsB 10 s).length - 1)
theorem dam_end {s : ByteArray} {m : Nat} {p : ByteArray} (hl : (cutsB 10 s).length = m + 1) (hp : (cutsB 10 s)[m]? = some p) (h : (p.toList == []) = true) : damL s = damT (cutsB 10 s) m := by
  unfold damL damW
  rw [hl, Nat.add_sub_cancel, lineAt_get hp, h]
  simp
theorem dam_more {s : ByteArray} {m : Nat} {p : ByteArray} (hl : (cutsB 10 s).length = m + 1) (hp : (cutsB 10 s)[m]? = some p) (h : (p.toList == []) = false) : damL s = damT (cutsB 10 s) m ++ [(m : Int) + 1] := by
  unfold damL damW
  rw [hl, Nat.add_sub_cancel, lineAt_get hp, h]
  rfl
theorem cuts_last_get (s : ByteArray) : ∃ m p, (cutsB 10 s).length = m + 1 ∧ (cutsB 10 s)[m]? = some p := by
  have h : (cutsB 10 s).length ≠ 0 := by
    unfold cutsB
    rw [List.length_map, cutsL_len]
    omega
  obtain ⟨m, hm⟩ : ∃ m, (cutsB 10 s).length = m + 1 := ⟨(cutsB 10 s).length - 1, by omega⟩
  exact ⟨m, _, hm, List.getElem?_eq_getElem (by omega)⟩

set_option maxHeartbeats 1000000 in
theorem s_l29Lines (s : ByteArray) (w : World) (hs : s.size ≤ 1048576) {m : Nat} {p : ByteArray} (hlen : (cutsB 10 s).length = m + 1) (hp : (cutsB 10 s)[m]? = some p) :
    Calls Tryd.prog 29 #[.string s] w fun e w' => ∃ A c, m ≤ 4194303 ∧ e = .returned (.tuple #[.slice A m c, .bool (p.toList == [])]) ∧ Rd strE w' A m ((cutsB 10 s).take m) ∧ Below w.heap.size w w' := by
  have HP := Lib.hid hp
  clear hp
  obtain ⟨B, hB⟩ : ∃ B, (p.toList == []) = B := ⟨_, rfl⟩
  rw [hB]
  go_enter Tryd.func29, Tryd.ntmps29
  go_wp2_with fail
  refine (s_l01Split s 10 _ hs).mono ?_
  rintro e w1 ⟨A, n, c, hl, hn, ho, rfl, hb⟩
  obtain rfl : n = m + 1 := hl.symm.trans hlen
  have hgl : GL strE 9 w.heap.size w1 (.slice A (m + 1) c) (cutsB 10 s) := by unfold GL; rw [hl]; exact ho
  obtain ⟨g, rfl⟩ := hgl.place (by omega)
  have hcap := hgl.cap
  have hc0 : w1.cell? ⟨g, m, none⟩ = some (.string p) := by
    have h1 := hgl.range m
    rw [drop_of_get HP.out] at h1
    have h2 := h1 0 (.string p) rfl
    rw [show m * strE.k = m from Nat.mul_one _] at h2
    exact h2
  have HR := Lib.hid (hgl.rd.take m (by omega))
  have hcm1 := hcap.1
  have hcm2 := hcap.2
  unfold maxLen at hcm2
  clear ho hgl hl hlen hcap
  have hc0d : ∀ q, (w1.drewN q).cell? ⟨g, m, none⟩ = some (.string p) := fun q => hc0
  have b1 : (0 : Int) ≤ (m : Int) := by omega
  have b2 : (m : Int) ≤ (c : Int) := by omega
  have b3 : (m : Int) < (m : Int) + 1 := by omega
  go_wp2_with fail
  go_quiet (fail)
  go_wp2
  go_ret2
  exact ⟨_, c, by omega, rfl, HR.out, hb.trans (below_drewN (Below.refl _ _) _)⟩

set_option maxRecDepth 100000 in
set_option maxHeartbeats 2000000 in
theorem S_DamagedLines (s : ByteArray) (w : World) (hs : s.size ≤ 1048576) :
    Calls Tryd.prog 11 #[.string s] w (RetL intE 2 (damL s) w) := by
  obtain ⟨m, p, hlen, hp⟩ := cuts_last_get s
  obtain ⟨i0, hi, hz0, hz1, hz2⟩ := info_parts Tryd.info_int
  have HZ := Lib.hid (And.intro hz0 hz1); clear hz0 hz1
  have HSZ := Lib.hid (fun x (hx : x ∈ cutsB 10 s) => cuts_small hx)
  have hlines := s_l29Lines s w hs hlen hp
  have HLEN := Lib.hid hlen
  have HP := Lib.hid hp
  obtain ⟨B, hB⟩ : ∃ B, (p.toList == []) = B := ⟨_, rfl⟩
  rw [hB] at hlines
  have HB := Lib.hid hB
  clear hp hlen hB
  go_enter Tryd.func11, Tryd.ntmps11
  go_wp2_with fail
  refine hlines.mono ?_
  rintro e w1 ⟨A, c, hm3, rfl, hrd, hb1⟩
  clear hlines
  have hz1 := hb1.size
  have hgl0 : GL intE 2 w1.heap.size (w1.alloc (.cells #[] 2)) (.slice (some ⟨w1.heap.size, 0, none⟩) 0 0) [] := GL.mk0 (Nat.le_refl _)
  have hb0 : Below w1.heap.size w1 (w1.alloc (.cells #[] 2)) := (Below.refl _ _).alloc (Nat.le_refl _) _
  go_wp2_with fail
  go_loopw [5, 6] (fun v i wr => ∃ (k z : Nat) (r : List Int) (A' : Option Addr) (c' : Nat), 1 ≤ k ∧ (k ≤ m ∨ k = 1) ∧ i = .int .i64 k ∧ v = .slice A' z c' ∧ GL intE 2 w1.heap.size wr (.slice A' z c') r ∧ z ≤ k ∧ Below w1.heap.size w1 wr ∧ Hid (r = damT (cutsB 10 s) k)) (fun _ i _ => m + 1 - (intOf i).toNat)
  case atStart => exact ⟨1, 0, [], _, _, Nat.le_refl _, .inr rfl, rfl, rfl, hgl0, by omega, hb0, Lib.hid (dam_one _).symm⟩
  case round =>
    clear hb0 hgl0
    obtain ⟨k, z, r, A', c', h1k, hkm, rfl, rfl, hgl, hzk, hb, HR⟩ := hrel
    by_cases hlt : k < m
    · obtain ⟨b, off, x, hA, hx, hc⟩ := hrd.get hlt
      subst hA
      have hc0 := range_below (B := 0) hc hb 0 (.string x) rfl
      simp only [strE, Nat.mul_one, Nat.add_zero] at hc0
      rw [List.getElem?_take_of_lt hlt] at hx
      have hxs := HSZ.out x (List.mem_of_getElem? hx)
      have hpx := s_l29Parse x wr (by omega)
      have HX := Lib.hid hx
      clear hc hx
      rcases Int.decEq (codeP (bl x)) 0 with hcd | hcd
      · have HK : Hid (r ++ [(k : Int) + 1] = damT (cutsB 10 s) (k + 1)) := Lib.hid (by rw [dam_in HX.out h1k hcd, HR.out])
        have hcb : (codeP (bl x) != 0) = true := by rw [bne_iff_ne]; exact hcd
        obtain ⟨cd, hcde⟩ : ∃ cd, codeP (bl x) = cd := ⟨_, rfl⟩
        unfold ParseR at hpx
        rw [hcde] at hpx hcb
        clear hcd hcde
        go_wp2_with fail
        refine hpx.mono ?_
        rintro e w3 ⟨y, Hy, rfl, hb3⟩
        clear hpx
        have hgl3 := hgl.below hb3
        have hbN := hb.trans (hb3.mono hb.size)
        have hlo := hgl3.lt
        have hbz := hbN.size
        have hb4 : Below w1.heap.size w1 (w3.alloc (.cells #[.string y.fKind, .string y.fName, .string y.fText] 42)) := hbN.alloc hbz _
        go_wp2_with (at_builtin; refine wpList_pushO intE rfl _ _ 30 rfl w1.heap.size 2 i0 _ 8 Tryd.underlying30 hi HZ.out.1 HZ.out.2 hz2 rfl A' z c' r ((k : Int) + 1) rfl ((hgl3.alloc _).alloc _) (w3.heap.size + 1) rfl (range_new' _ _ _ (by simp)) (by omega) (by decide) (by simp; omega) ?_; intro A2 c2 w6 hgl6 ht6 _)
        have hb6 := Below.touch (hb4.alloc (by simp; omega) (.cells #[.int .i64 ((k : Int) + 1)] 2)) ht6 (fun q hq => (hlo q hq).1) (by simp; omega)
        first | (refine ⟨⟨k + 1, z + 1, r ++ [(k : Int) + 1], A2, c2, by omega, .inl (by omega), by go_num, rfl, hgl6, by omega, hb6, HK⟩, ?_⟩; (simp [intOf]; omega)) | (go_roundw; (case rel => first | exact ⟨k + 1, z + 1, r ++ [(k : Int) + 1], A2, c2, by omega, .inl (by omega), by go_num, rfl, hgl6, by omega, hb6, HK⟩ | ((try refine ⟨trivial, ?_⟩); (repeat apply Exists.intro); exact ⟨⟨k + 1, z + 1, r ++ [(k : Int) + 1], A2, c2, by omega, .inl (by omega), by go_num, rfl, hgl6, by omega, hb6, HK⟩, rfl⟩)); (case measure => (simp [intOf]; omega)))
      · have HK : Hid (r = damT (cutsB 10 s) (k + 1)) := Lib.hid (by rw [dam_out HX.out (.inr hcd), HR.out])
        unfold ParseR at hpx
        rw [hcd] at hpx
        clear hcd
        go_wp2_with fail
        refine hpx.mono ?_
        rintro e w3 ⟨y, Hy, rfl, hb3⟩
        clear hpx
        have hgl3 := (hgl.below hb3).alloc (.cells #[.string y.fKind, .string y.fName, .string y.fText] 42)
        have hbN := hb.trans (hb3.mono hb.size)
        have hb4 : Below w1.heap.size w1 (w3.alloc (.cells #[.string y.fKind, .string y.fName, .string y.fText] 42)) := hbN.alloc hbN.size _
        go_wp2
        first | (refine ⟨⟨k + 1, z, r, A', c', by omega, .inl (by omega), by go_num, rfl, hgl3, by omega, hb4, HK⟩, ?_⟩; (simp [intOf]; omega)) | (go_roundw; (case rel => first | exact ⟨k + 1, z, r, A', c', by omega, .inl (by omega), by go_num, rfl, hgl3, by omega, hb4, HK⟩ | ((try refine ⟨trivial, ?_⟩); (repeat apply Exists.intro); exact ⟨⟨k + 1, z, r, A', c', by omega, .inl (by omega), by go_num, rfl, hgl3, by omega, hb4, HK⟩, rfl⟩)); (case measure => (simp [intOf]; omega)))
    · have HKm : Hid (damT (cutsB 10 s) k = damT (cutsB 10 s) m) := Lib.hid (by
        rcases hkm with h | h
        · rw [show k = m by omega]
        · subst h
          have : m = 0 ∨ m = 1 := by omega
          rcases this with h | h <;> rw [h, dam_one]
          simp [damT])
      have hbW := hb1.trans (hb.mono hz1)
      have hlo := hgl.lt
      have hbz := hb.size
      have hzm : z ≤ 4194305 := by omega
      clear hkm
      cases B with
      | true =>
        have E := Lib.hid (dam_end HLEN.out HP.out HB.out)
        go_wp2
        go_ret
        exact RetL.mk (hgl.mono hz1) (by have := hgl.len; have h2 := HR.out; rw [HKm.out] at h2; have := dam_len (cutsB 10 s) m; rw [← h2] at this; omega) (by rw [E.out, HR.out, HKm.out]) hbW
      | false =>
        have E := Lib.hid (dam_more HLEN.out HP.out HB.out)
        go_wp2_with (at_builtin; refine wpList_pushO intE rfl _ _ 30 rfl w1.heap.size 2 i0 _ 8 Tryd.underlying30 hi HZ.out.1 HZ.out.2 hz2 rfl A' z c' r ((m : Int) + 1) rfl (hgl.alloc _) wr.heap.size rfl (range_new _ _ _) (by omega) (by decide) (by simp; omega) ?_; intro A2 c2 w6 hgl6 ht6 _)
        have hb6 := Below.touch (hbW.alloc (by omega) (.cells #[.int .i64 ((m : Int) + 1)] 2)) ht6 (fun q hq => by have := (hlo q hq).1; omega) (by simp; omega)
        go_ret
        exact RetL.mk (hgl6.mono hz1) (by have := hgl.len; have h2 := HR.out; rw [HKm.out] at h2; have := dam_len (cutsB 10 s) m; rw [← h2] at this; omega) (by rw [E.out, HR.out, HKm.out]) hb6

set_option maxRecDepth 100000 in
set_option maxHeartbeats 4000000 in
theorem I_DamagedLines (s : ByteArray) (w : World) (hs : s.size ≤ 1048576) (hL : LibW w) :
    Calls Tryd.prog 12 #[.string s] w (RetL intE 2 (damL s) w) := by
  obtain ⟨m, p, hlen, hp⟩ := cuts_last_get s
  obtain ⟨i0, hi, hz0, hz1, hz2⟩ := info_parts Tryd.info_int
  have HZ := Lib.hid (And.intro hz0 hz1); clear hz0 hz1
  have HSZ := Lib.hid (fun x (hx : x ∈ cutsB 10 s) => cuts_small hx)
  have HLEN := Lib.hid hlen
  have HP := Lib.hid hp
  have hb1 : Below w.heap.size w (w.alloc (.cells #[] 2)) := (Below.refl _ _).alloc (Nat.le_refl _) _
  have hgo : GL intE 2 w.heap.size (w.alloc (.cells #[] 2)) (.slice (some ⟨w.heap.size, 0, none⟩) 0 0) [] := GL.mk0 (Nat.le_refl _)
  obtain ⟨W1, hW1⟩ : ∃ W1, w.alloc (.cells #[] 2) = W1 := ⟨_, rfl⟩
  have hsW : w.heap.size < W1.heap.size := by rw [← hW1]; simp
  rw [hW1] at hb1 hgo
  clear hp
  go_enter Tryd.func12, Tryd.ntmps12
  go_wp2_with fail
  try rw [hW1]
  clear hW1
  refine (i_Split s 10 _ hs (hL.below hb1)).mono ?_
  rintro e w1 ⟨A, n, c, hl, hn, rfl, hgl, hb⟩
  obtain rfl : n = m + 1 := hl.symm.trans hlen
  have hb2 : Below w.heap.size w w1 := hb1.trans (hb.mono hb1.size)
  have hz22 := hb.size
  have hgo1 := hgo.below hb
  obtain ⟨F, hFd⟩ : ∃ F : Nat → Prop, ∀ k, F k ↔ (k = w.heap.size ∨ w1.heap.size ≤ k) := ⟨_, fun _ => Iff.rfl⟩
  have hFlo : ∀ k, F k → w.heap.size ≤ k := fun k hk => by have := (hFd k).1 hk; omega
  have hol : OL intE 2 F w1 (some ⟨w.heap.size, 0, none⟩) 0 0 [] := ⟨(hgo1.mono (Nat.zero_le _)).own.2, rfl, fun k hk => (hFd k).2 (.inl (by cases hk; rfl))⟩
  have hrd1 := hgl.rd
  have hnF : ∀ b off, A = some ⟨b, off, none⟩ → ¬ F b := fun b off e hF => by
    obtain ⟨h1, h2⟩ := hgl.own.2.lt b (by rw [e]; rfl)
    have := (hFd b).1 hF
    omega
  have HFD := Lib.hid hFd
  have HFL := Lib.hid hFlo
  clear hl hgl hgo hgo1 hb1 hFd hlen hFlo
  go_wp2_with fail
  go_loopw [3, 18] (fun v i wr => ∃ (k z : Nat) (r : List Int) (A' : Option Addr) (c' : Nat), k ≤ m + 1 ∧ i = .int .i64 k ∧ v = .slice A' z c' ∧ OL intE 2 F wr A' z c' r ∧ Hid (z ≤ k) ∧ Touch F w1 wr ∧ Hid (k ≤ m → r = damT (cutsB 10 s) k) ∧ Hid (k = m + 1 → r = damL s)) (fun _ i _ => m + 1 - (intOf i).toNat)
  case atStart => exact ⟨0, 0, [], _, _, Nat.zero_le _, rfl, rfl, hol, Lib.hid (Nat.le_refl _), Touch.refl _ _, Lib.hid (fun _ => by simp [damT]), Lib.hid (fun h => by omega)⟩
  case round =>
    obtain ⟨k, z, r, A', c', hk, rfl, rfl, hor, hzk, ht', HR, HE⟩ := hrel
    have hts := ht'.size
    have hbr : Below w.heap.size w wr := Below.touch hb2 ht' HFL.out (by omega)
    by_cases hlt : k < m + 1
    · obtain ⟨b, off, x, hAe, hx, hcs⟩ := hrd1.get hlt
      subst hAe
      have hc0 := range_touch hcs ht' (hnF _ _ rfl) 0 (.string x) rfl
      simp only [strE, Nat.mul_one, Nat.add_zero] at hc0
      have hxs := HSZ.out x (List.mem_of_getElem? hx)
      have hpx := i_readBlock x wr (by omega) (hL.below hbr)
      have HX := Lib.hid hx
      have h32 := hzk.out
      clear hcs hx
      unfold ParseR at hpx
      rcases Nat.lt_or_ge k m with hkm | hkm
      · have hne : ((k : Int) == (m : Int)) = false := by rw [beq_eq_false_iff_ne]; omega
        rcases Nat.eq_zero_or_pos k with hk0 | hk0
        · subst hk0
          rw [Nat.add_zero] at hc0
          have HK : Hid (0 + 1 ≤ m → r = damT (cutsB 10 s) (0 + 1)) := Lib.hid (fun _ => by rw [dam_out HX.out (.inl rfl)]; exact HR.out (by omega))
          have HK2 : Hid (0 + 1 = m + 1 → r = damL s) := Lib.hid (fun h => by omega)
          obtain ⟨cd, hcde⟩ : ∃ cd, codeP (bl x) = cd := ⟨_, rfl⟩
          rw [hcde] at hpx
          clear hcde
          go_wp2_with fail
          refine hpx.mono ?_
          rintro e w3 ⟨y, Hy, rfl, hb3⟩
          clear hpx
          have hor3 := (hor.below hb3).alloc (.cells #[.string y.fKind, .string y.fName, .string y.fText] 42)
          have ht3 := (ht'.trans (Touch.of_below hb3)).trans (Touch.alloc w3 (.cells #[.string y.fKind, .string y.fName, .string y.fText] 42))
          go_wp2
          first | (refine ⟨⟨0 + 1, z, r, A', c', by omega, by go_num, rfl, hor3, Lib.hid (by omega), ht3, HK, HK2⟩, ?_⟩; (first | (simp [intOf]; done) | (simp [intOf]; omega))) | (go_roundw; (case rel => first | exact ⟨0 + 1, z, r, A', c', by omega, by go_num, rfl, hor3, Lib.hid (by omega), ht3, HK, HK2⟩ | ((try refine ⟨trivial, ?_⟩); (repeat apply Exists.intro); exact ⟨⟨0 + 1, z, r, A', c', by omega, by go_num, rfl, hor3, Lib.hid (by omega), ht3, HK, HK2⟩, rfl⟩)); (case measure => (first | (simp [intOf]; done) | (simp [intOf]; omega))))
        · have hk0i : (0 : Int) < (k : Int) := by omega
          rcases codeP_vals (bl x) with hcd | hcd | hcd
          · have HK : Hid (k + 1 ≤ m → r = damT (cutsB 10 s) (k + 1)) := Lib.hid (fun _ => by rw [dam_out HX.out (.inr hcd)]; exact HR.out (by omega))
            have HK2 : Hid (k + 1 = m + 1 → r = damL s) := Lib.hid (fun h => by omega)
            rw [hcd] at hpx
            clear hcd
            go_wp2_with fail
            refine hpx.mono ?_
            rintro e w3 ⟨y, Hy, rfl, hb3⟩
            clear hpx
            have hor3 := (hor.below hb3).alloc (.cells #[.string y.fKind, .string y.fName, .string y.fText] 42)
            have ht3 := (ht'.trans (Touch.of_below hb3)).trans (Touch.alloc w3 (.cells #[.string y.fKind, .string y.fName, .string y.fText] 42))
            go_wp2
            first | (refine ⟨⟨k + 1, z, r, A', c', by omega, by go_num, rfl, hor3, Lib.hid (by omega), ht3, HK, HK2⟩, ?_⟩; (simp [intOf]; omega)) | (go_roundw; (case rel => first | exact ⟨k + 1, z, r, A', c', by omega, by go_num, rfl, hor3, Lib.hid (by omega), ht3, HK, HK2⟩ | ((try refine ⟨trivial, ?_⟩); (repeat apply Exists.intro); exact ⟨⟨k + 1, z, r, A', c', by omega, by go_num, rfl, hor3, Lib.hid (by omega), ht3, HK, HK2⟩, rfl⟩)); (case measure => (simp [intOf]; omega)))
          · have HK : Hid (k + 1 ≤ m → r ++ [(k : Int) + 1] = damT (cutsB 10 s) (k + 1)) := Lib.hid (fun _ => by rw [dam_in HX.out hk0 (by rw [hcd]; decide), ← HR.out (by omega)])
            have HK2 : Hid (k + 1 = m + 1 → r ++ [(k : Int) + 1] = damL s) := Lib.hid (fun h => by omega)
            rw [hcd] at hpx
            clear hcd
            go_wp2_with fail
            refine hpx.mono ?_
            rintro e w3 ⟨y, Hy, rfl, hb3⟩
            clear hpx
            have hor3 := (hor.below hb3).alloc (.cells #[.string y.fKind, .string y.fName, .string y.fText] 42)
            have ht3 := (ht'.trans (Touch.of_below hb3)).trans (Touch.alloc w3 (.cells #[.string y.fKind, .string y.fName, .string y.fText] 42))
            have hz3 := hb3.size
            go_wp2_with (at_builtin; refine wpList_pushT intE rfl _ _ 30 rfl 2 i0 _ 8 Tryd.underlying30 hi HZ.out.1 HZ.out.2 hz2 rfl F A' z c' r ((k : Int) + 1) rfl (hor3.alloc _) (w3.heap.size + 1) rfl (range_new' _ _ _ (by simp)) ((HFD.out _).2 (.inr (by simp; omega))) (by omega) (by decide) ?_; intro A2 c2 w4 hor4 ht4)
            have ht5 := ht3.trans ((Touch.alloc _ (.cells #[.int .i64 ((k : Int) + 1)] 2)).trans ht4)
            first | (refine ⟨⟨k + 1, z + 1, r ++ [(k : Int) + 1], A2, c2, by omega, by go_num, rfl, hor4, Lib.hid (by omega), ht5, HK, HK2⟩, ?_⟩; (simp [intOf]; omega)) | (go_roundw; (case rel => first | exact ⟨k + 1, z + 1, r ++ [(k : Int) + 1], A2, c2, by omega, by go_num, rfl, hor4, Lib.hid (by omega), ht5, HK, HK2⟩ | ((try refine ⟨trivial, ?_⟩); (repeat apply Exists.intro); exact ⟨⟨k + 1, z + 1, r ++ [(k : Int) + 1], A2, c2, by omega, by go_num, rfl, hor4, Lib.hid (by omega), ht5, HK, HK2⟩, rfl⟩)); (case measure => (simp [intOf]; omega)))
          · have HK : Hid (k + 1 ≤ m → r ++ [(k : Int) + 1] = damT (cutsB 10 s) (k + 1)) := Lib.hid (fun _ => by rw [dam_in HX.out hk0 (by rw [hcd]; decide), ← HR.out (by omega)])
            have HK2 : Hid (k + 1 = m + 1 → r ++ [(k : Int) + 1] = damL s) := Lib.hid (fun h => by omega)
            rw [hcd] at hpx
            clear hcd
            go_wp2_with fail
            refine hpx.mono ?_
            rintro e w3 ⟨y, Hy, rfl, hb3⟩
            clear hpx
            have hor3 := (hor.below hb3).alloc (.cells #[.string y.fKind, .string y.fName, .string y.fText] 42)
            have ht3 := (ht'.trans (Touch.of_below hb3)).trans (Touch.alloc w3 (.cells #[.string y.fKind, .string y.fName, .string y.fText] 42))
            have hz3 := hb3.size
            go_wp2_with (at_builtin; refine wpList_pushT intE rfl _ _ 30 rfl 2 i0 _ 8 Tryd.underlying30 hi HZ.out.1 HZ.out.2 hz2 rfl F A' z c' r ((k : Int) + 1) rfl (hor3.alloc _) (w3.heap.size + 1) rfl (range_new' _ _ _ (by simp)) ((HFD.out _).2 (.inr (by simp; omega))) (by omega) (by decide) ?_; intro A2 c2 w4 hor4 ht4)
            have ht5 := ht3.trans ((Touch.alloc _ (.cells #[.int .i64 ((k : Int) + 1)] 2)).trans ht4)
            first | (refine ⟨⟨k + 1, z + 1, r ++ [(k : Int) + 1], A2, c2, by omega, by go_num, rfl, hor4, Lib.hid (by omega), ht5, HK, HK2⟩, ?_⟩; (simp [intOf]; omega)) | (go_roundw; (case rel => first | exact ⟨k + 1, z + 1, r ++ [(k : Int) + 1], A2, c2, by omega, by go_num, rfl, hor4, Lib.hid (by omega), ht5, HK, HK2⟩ | ((try refine ⟨trivial, ?_⟩); (repeat apply Exists.intro); exact ⟨⟨k + 1, z + 1, r ++ [(k : Int) + 1], A2, c2, by omega, by go_num, rfl, hor4, Lib.hid (by omega), ht5, HK, HK2⟩, rfl⟩)); (case measure => (simp [intOf]; omega)))
      · obtain rfl : m = k := by omega
        have hxp : x = p := Option.some.inj (HX.out.symm.trans HP.out)
        subst hxp
        obtain ⟨cd, hcde⟩ : ∃ cd, codeP (bl x) = cd := ⟨_, rfl⟩
        rw [hcde] at hpx
        clear hcde
        have hself : ((m : Int) == (m : Int)) = true := by simp
        have hnlt : ¬ (m : Int) < (m : Int) := by omega
        have HK : Hid (m + 1 ≤ m → r = damT (cutsB 10 s) (m + 1)) := Lib.hid (fun h => by omega)
        rcases hE : (x.toList == []) with _ | _
        · have HK1 : Hid (m + 1 ≤ m → r ++ [(m : Int) + 1] = damT (cutsB 10 s) (m + 1)) := Lib.hid (fun h => by omega)
          have HD : Hid (r ++ [(m : Int) + 1] = damL s) := Lib.hid (by rw [dam_more HLEN.out HP.out hE, ← HR.out (Nat.le_refl _)])
          have hEb : (x.toList != []) = true := by rw [bne, hE]; rfl
          go_wp2_with fail
          refine hpx.mono ?_
          rintro e w3 ⟨y, Hy, rfl, hb3⟩
          clear hpx
          have hor3 := (hor.below hb3).alloc (.cells #[.string y.fKind, .string y.fName, .string y.fText] 42)
          have ht3 := (ht'.trans (Touch.of_below hb3)).trans (Touch.alloc w3 (.cells #[.string y.fKind, .string y.fName, .string y.fText] 42))
          have hz3 := hb3.size
          go_wp2_with (at_builtin; refine wpList_pushT intE rfl _ _ 30 rfl 2 i0 _ 8 Tryd.underlying30 hi HZ.out.1 HZ.out.2 hz2 rfl F A' z c' r ((m : Int) + 1) rfl (hor3.alloc _) (w3.heap.size + 1) rfl (range_new' _ _ _ (by simp)) ((HFD.out _).2 (.inr (by simp; omega))) (by omega) (by decide) ?_; intro A2 c2 w4 hor4 ht4)
          have ht5 := ht3.trans ((Touch.alloc _ (.cells #[.int .i64 ((m : Int) + 1)] 2)).trans ht4)
          first | (refine ⟨⟨m + 1, z + 1, r ++ [(m : Int) + 1], A2, c2, by omega, by go_num, rfl, hor4, Lib.hid (by omega), ht5, HK1, Lib.hid (fun _ => HD.out)⟩, ?_⟩; (first | (simp [intOf]; done) | (simp [intOf]; omega))) | (go_roundw; (case rel => first | exact ⟨m + 1, z + 1, r ++ [(m : Int) + 1], A2, c2, by omega, by go_num, rfl, hor4, Lib.hid (by omega), ht5, HK1, Lib.hid (fun _ => HD.out)⟩ | ((try refine ⟨trivial, ?_⟩); (repeat apply Exists.intro); exact ⟨⟨m + 1, z + 1, r ++ [(m : Int) + 1], A2, c2, by omega, by go_num, rfl, hor4, Lib.hid (by omega), ht5, HK1, Lib.hid (fun _ => HD.out)⟩, rfl⟩)); (case measure => (first | (simp [intOf]; done) | (simp [intOf]; omega))))
        · have HD : Hid (r = damL s) := Lib.hid (by rw [dam_end HLEN.out HP.out hE]; exact HR.out (Nat.le_refl _))
          have hEb : (x.toList != []) = false := by rw [bne, hE]; rfl
          go_wp2_with fail
          refine hpx.mono ?_
          rintro e w3 ⟨y, Hy, rfl, hb3⟩
          clear hpx
          have hor3 := (hor.below hb3).alloc (.cells #[.string y.fKind, .string y.fName, .string y.fText] 42)
          have ht3 := (ht'.trans (Touch.of_below hb3)).trans (Touch.alloc w3 (.cells #[.string y.fKind, .string y.fName, .string y.fText] 42))
          go_wp2
          all_goals first | (refine ⟨⟨m + 1, z, r, A', c', by omega, by go_num, rfl, hor3, Lib.hid (by omega), ht3, HK, Lib.hid (fun _ => HD.out)⟩, ?_⟩; (first | (simp [intOf]; done) | (simp [intOf]; omega))) | (go_roundw; (case rel => first | exact ⟨m + 1, z, r, A', c', by omega, by go_num, rfl, hor3, Lib.hid (by omega), ht3, HK, Lib.hid (fun _ => HD.out)⟩ | ((try refine ⟨trivial, ?_⟩); (repeat apply Exists.intro); exact ⟨⟨m + 1, z, r, A', c', by omega, by go_num, rfl, hor3, Lib.hid (by omega), ht3, HK, Lib.hid (fun _ => HD.out)⟩, rfl⟩)); (case measure => (first | (simp [intOf]; done) | (simp [intOf]; omega))))
    · have E : Hid (damL s = r) := Lib.hid (HE.out (by omega)).symm
      have h32 := hzk.out
      go_wp2
      go_ret
      exact RetL.mk (hor.toGL HFL.out) (by omega) E.out hbr

end Go.Proofs.YtnbeomceiealdaaDoor

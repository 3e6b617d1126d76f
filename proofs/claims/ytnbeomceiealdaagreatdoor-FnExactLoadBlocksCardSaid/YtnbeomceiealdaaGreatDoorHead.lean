/- The number of blocks that a first line tells: both sides. -/
import Derived.Test.YtnbeomceiealdaaGreatDoorRows
import Derived.Test.YtnbeomceiealdaaGreatDoorHeadLaw
import Derived.Test.YtnbeomceiealdaaGreatDoorDamaged
namespace Go.Proofs.YtnbeomceiealdaaGreatDoor
set_option linter.unusedVariables false
set_option linter.unusedSimpArgs false
set_option linter.unusedSectionVars false
open Go.RowKit

/-- what reading a first line leaves -/
def HeadR (s : ByteArray) (w : World) (e : Ending) (w' : World) : Prop := ∃ n : Int, Hid (∀ v, headO (bl s) = some v → n = v) ∧ e = .returned (.tuple #[.int .i64 n, .bool (headOk (bl s))]) ∧ Below w.heap.size w w'
theorem headOk_some {l : List UInt8} {n : Int} (h : headO l = some n) : headOk l = true := by unfold headOk; rw [h]; rfl
theorem headOk_none {l : List UInt8} (h : headO l = none) : headOk l = false := by unfold headOk; rw [h]; rfl

set_option maxRecDepth 100000 in
set_option maxHeartbeats 2000000 in
theorem s_l29Head (s : ByteArray) (w : World) (hs : s.size ≤ 1048576) :
    Calls Tryz.prog 10 #[.string s] w (HeadR s w) := by
  unfold HeadR
  go_enter Tryz.func10, Tryz.ntmps10
  go_wp2_with fail
  refine (s_l01Split s 32 _ hs).mono ?_
  rintro e w1 ⟨A, n, c, hl, hn, ho, rfl, hb⟩
  have hgl : GL strE 9 w.heap.size w1 (.slice A n c) (cutsB 32 s) := by unfold GL; rw [hl]; exact ho
  clear ho
  by_cases h2 : n = 2
  · subst h2
    have hrd := hgl.rd
    obtain ⟨b, off, p0, hAe, hp0, hcs0⟩ := hrd.get (k := 0) (by omega)
    subst hAe
    obtain ⟨b1, off1, p1, hAe1, hp1, hcs1⟩ := hrd.get (k := 1) (by omega)
    cases hAe1
    have hc0 := hcs0 0 (.string p0) rfl
    have hc1 := hcs1 0 (.string p1) rfl
    simp only [strE, Nat.mul_one, Nat.zero_mul, Nat.add_zero] at hc0 hc1
    have hlst : cutsL 32 (bl s) = [bl p0, bl p1] := by
      have : cutsB 32 s = [p0, p1] := by
        match hh : cutsB 32 s, hl with
        | [x, y], _ =>
          rw [hh] at hp0 hp1
          simp at hp0 hp1
          rw [hp0, hp1]
      unfold cutsB at this
      have h3 := congrArg (List.map bl) this
      rw [List.map_map, show (bl ∘ ofL) = id by funext l; exact bl_ofL l, List.map_id] at h3
      exact h3
    have hz1 : p1.size ≤ s.size := by
      have := List.mem_of_getElem? hp1
      unfold cutsB at this
      obtain ⟨l, hl2, rfl⟩ := List.mem_map.1 this
      rw [ofL_size]
      have h4 := cuts_sub hl2
      rw [show s.data.toList = bl s from rfl, bl_size] at h4
      exact h4
    clear hcs0 hcs1 hp0 hp1 hl hgl hrd
    by_cases ha : bl p0 = archL
    · have hh := head_two hlst ha
      have ht : (p0.toList == [97, 114, 99, 104, 105, 118, 101]) = true := by rw [ByteArray.toList_eq, show p0.data.toList = bl p0 from rfl, ha]; rfl
      have hnum := s_l01Number p1 w1 (by unfold maxLen; omega)
      unfold numV numOk at hnum
      rw [show p1.data.toList = bl p1 from rfl] at hnum
      clear ha hlst
      cases hq : numL (bl p1) with
      | none =>
        rw [hq] at hh hnum
        have HO : Hid (headOk (bl s) = false) := Lib.hid (headOk_none hh)
        have HV : Hid (∀ v, headO (bl s) = some v → (0 : Int) = v) := Lib.hid (fun v h => by rw [hh] at h; cases h)
        clear hq hh
        go_wp2_with fail
        refine hnum.mono ?_
        rintro e w3 ⟨rfl, rfl⟩
        go_wp2
        go_ret2
        exact ⟨0, HV, by rw [HO.out]; rfl, hb⟩
      | some v =>
        rw [hq] at hh hnum
        have hin := fun W => s_l00In v 0 32 W
        by_cases hr : 0 ≤ v ∧ v ≤ 32
        · have hi : inB v 0 32 = true := inB_true hr.1 hr.2
          have h3 : headO (bl s) = some v := by rw [hh]; simp only; rw [if_pos hr]
          have HO : Hid (headOk (bl s) = true) := Lib.hid (headOk_some h3)
          have HV : Hid (∀ x, headO (bl s) = some x → v = x) := Lib.hid (fun x h => by rw [h3] at h; cases h; rfl)
          rw [hi] at hin
          clear hq hh hr hi h3
          go_wp2_with fail
          refine hnum.mono ?_
          rintro e w3 ⟨rfl, rfl⟩
          go_wp2_with fail
          refine (hin _).mono ?_
          rintro e w4 ⟨rfl, rfl⟩
          go_wp2
          go_ret2
          exact ⟨v, HV, by rw [HO.out]; rfl, hb⟩
        · have hi : inB v 0 32 = false := by
            cases hq2 : inB v 0 32
            · rfl
            · exact absurd (inB_spec hq2) hr
          have h3 : headO (bl s) = none := by rw [hh]; simp only; rw [if_neg hr]
          have HO : Hid (headOk (bl s) = false) := Lib.hid (headOk_none h3)
          have HV : Hid (∀ x, headO (bl s) = some x → v = x) := Lib.hid (fun x h => by rw [h3] at h; cases h)
          rw [hi] at hin
          clear hq hh hr hi h3
          go_wp2_with fail
          refine hnum.mono ?_
          rintro e w3 ⟨rfl, rfl⟩
          go_wp2_with fail
          refine (hin _).mono ?_
          rintro e w4 ⟨rfl, rfl⟩
          go_wp2
          go_ret2
          exact ⟨v, HV, by rw [HO.out]; rfl, hb⟩
    · have h3 : headO (bl s) = none := head_not fun a b hab e => by
        rw [hlst] at hab
        cases hab
        exact ha e
      have HO : Hid (headOk (bl s) = false) := Lib.hid (headOk_none h3)
      have HV : Hid (∀ x, headO (bl s) = some x → (0 : Int) = x) := Lib.hid (fun x h => by rw [h3] at h; cases h)
      have ht : (p0.toList == [97, 114, 99, 104, 105, 118, 101]) = false := by rw [beq_eq_false_iff_ne, ByteArray.toList_eq]; exact ha
      clear ha hlst h3
      go_wp2
      go_ret2
      exact ⟨0, HV, by rw [HO.out]; rfl, hb⟩
  · have h3 : headO (bl s) = none := head_not fun a b hab => by
      exfalso
      apply h2
      rw [← hl]
      unfold cutsB
      rw [List.length_map, show s.data.toList = bl s from rfl, hab]
      rfl
    have HO : Hid (headOk (bl s) = false) := Lib.hid (headOk_none h3)
    have HV : Hid (∀ x, headO (bl s) = some x → (0 : Int) = x) := Lib.hid (fun x h => by rw [h3] at h; cases h)
    have hne : ((n : Int) != 2) = true := by rw [bne_iff_ne]; omega
    clear hl hgl h3 h2
    go_wp2
    go_ret2
    exact ⟨0, HV, by rw [HO.out]; rfl, hb⟩

set_option maxRecDepth 100000 in
set_option maxHeartbeats 2000000 in
theorem i_countOf (s : ByteArray) (w : World) (hs : s.size ≤ 1048576) (hL : LibW w) :
    Calls Tryz.prog 15 #[.string s] w (HeadR s w) := by
  unfold HeadR
  have hcp := Tryz.strings_CutPrefix s ⟨#[97, 114, 99, 104, 105, 118, 101, 32]⟩ w
  rw [show (⟨#[97, 114, 99, 104, 105, 118, 101, 32]⟩ : ByteArray).data.toList = archL ++ [32] from rfl, show s.data.toList = bl s from rfl] at hcp
  obtain ⟨T, hT⟩ : ∃ T : ByteArray, (⟨(Lib.trimPrefix (bl s) (archL ++ [32])).toArray⟩ : ByteArray) = T := ⟨_, rfl⟩
  have hbT : bl T = Lib.trimPrefix (bl s) (archL ++ [32]) := by rw [← hT]
  have hTs : T.size ≤ 1048576 := by
    rw [← bl_size, hbT]
    unfold Lib.trimPrefix
    split
    · rw [List.length_drop, bl_size]; omega
    · rw [bl_size]; exact hs
  rw [hT] at hcp
  have hrd := fun W (h : LibW W) => i_ReadDecimal T W hTs h
  unfold numV numOk at hrd
  rw [show T.data.toList = bl T from rfl, hbT] at hrd
  cases hpf : Lib.hasPrefix (bl s) (archL ++ [32]) with
  | false =>
    have h3 := head_npre hpf
    have HO : Hid (headOk (bl s) = false) := Lib.hid (headOk_none h3)
    have HV : Hid (∀ n x : Int, headO (bl s) = some x → n = x) := Lib.hid (fun n x h => by rw [h3] at h; cases h)
    rw [hpf] at hcp
    have hr := hrd w hL
    obtain ⟨q, hq⟩ : ∃ q, numL (Lib.trimPrefix (bl s) (archL ++ [32])) = q := ⟨_, rfl⟩
    rw [hq] at hr
    obtain ⟨v, hv⟩ : ∃ v, q.getD 0 = v := ⟨_, rfl⟩
    obtain ⟨k, hk⟩ : ∃ k, q.isSome = k := ⟨_, rfl⟩
    rw [hv, hk] at hr
    clear hrd hpf h3 hT hbT hq hv hk
    go_enter Tryz.func15, Tryz.ntmps15
    go_wp2_with fail
    refine hcp.mono ?_
    rintro e w1 ⟨rfl, rfl⟩
    go_wp2_with fail
    refine hr.mono ?_
    rintro e w2 ⟨rfl, hb⟩
    go_wp2
    go_ret2
    exact ⟨v, Lib.hid (HV.out v), by rw [HO.out]; rfl, hb⟩
  | true =>
    have hh := head_pre hpf
    rw [hpf] at hcp
    have hr := hrd w hL
    cases hq : numL (Lib.trimPrefix (bl s) (archL ++ [32])) with
    | none =>
      rw [hq] at hh hr
      have HO : Hid (headOk (bl s) = false) := Lib.hid (headOk_none hh)
      have HV : Hid (∀ v, headO (bl s) = some v → (0 : Int) = v) := Lib.hid (fun v h => by rw [hh] at h; cases h)
      clear hrd hpf hT hbT hq hh
      go_enter Tryz.func15, Tryz.ntmps15
      go_wp2_with fail
      refine hcp.mono ?_
      rintro e w1 ⟨rfl, rfl⟩
      go_wp2_with fail
      refine hr.mono ?_
      rintro e w2 ⟨rfl, hb⟩
      go_wp2
      go_ret2
      exact ⟨0, HV, by rw [HO.out]; rfl, hb⟩
    | some v =>
      rw [hq] at hh hr
      have hin := fun W => i_within v 0 32 W
      have key : ∃ b, inB v 0 32 = b ∧ headOk (bl s) = b ∧ ∀ x, headO (bl s) = some x → v = x := by
        by_cases hr2 : 0 ≤ v ∧ v ≤ 32
        · have h3 : headO (bl s) = some v := by rw [hh]; simp only; rw [if_pos hr2]
          exact ⟨true, inB_true hr2.1 hr2.2, headOk_some h3, fun x h => by rw [h3] at h; cases h; rfl⟩
        · have h3 : headO (bl s) = none := by rw [hh]; simp only; rw [if_neg hr2]
          refine ⟨false, ?_, headOk_none h3, fun x h => by rw [h3] at h; cases h⟩
          cases hq2 : inB v 0 32
          · rfl
          · exact absurd (inB_spec hq2) hr2
      obtain ⟨b, k1, k2, k3⟩ := key
      rw [k1] at hin
      have HO := Lib.hid k2
      have HV := Lib.hid k3
      clear hrd hpf hT hbT hq hh k1 k2 k3
      go_enter Tryz.func15, Tryz.ntmps15
      go_wp2_with fail
      refine hcp.mono ?_
      rintro e w1 ⟨rfl, rfl⟩
      go_wp2_with fail
      refine hr.mono ?_
      rintro e w2 ⟨rfl, hb⟩
      go_wp2_with fail
      refine (hin _).mono ?_
      rintro e w3 ⟨rfl, rfl⟩
      go_wp2
      go_ret2
      exact ⟨v, HV, by rw [HO.out]; rfl, hb⟩

end Go.Proofs.YtnbeomceiealdaaGreatDoor

/- The roles with some rights. -/
import Derived.Test.YtepegiklnhoobaaRows
import Derived.Test.YtepegiklnhoobaaMayA
namespace Go.Proofs.Ytepegiklnhoobaa
set_option linter.unusedVariables false
set_option linter.unusedSimpArgs false
set_option linter.unusedSectionVars false
open Go.RowKit

def rightE : Enc Rt := ⟨2, fun p => [.string p.1, .int .i64 p.2], fun _ => rfl, by decide, fun _ u h => by simp at h; rcases h with rfl | rfl <;> rfl⟩
open Classical in
noncomputable def hasAll (L R : List Rt) : Bool := decide (∀ p ∈ R, p ∈ L)
theorem hasAll_true {L R : List Rt} : hasAll L R = true ↔ ∀ p ∈ R, p ∈ L := by simp [hasAll]
theorem hasAll_false {L R : List Rt} : hasAll L R = false ↔ ¬ ∀ p ∈ R, p ∈ L := by
  unfold hasAll
  rw [decide_eq_false_iff_not]
noncomputable def whoM (rl : List DRole) (l : List DGrant) (R : List Rt) : List Bool := (List.range rl.length).map fun j => hasAll (rightsT rl j l) R
theorem whoM_get {rl : List DRole} {l : List DGrant} {R : List Rt} {k : Nat} (h : k < rl.length) : (whoM rl l R)[k]? = some (hasAll (rightsT rl k l) R) := by
  unfold whoM
  rw [List.getElem?_map, List.getElem?_range h]
  rfl
noncomputable def whoN (rl : List DRole) (l : List DGrant) (R : List Rt) : List ByteArray := undTo rl (whoM rl l R) rl.length

set_option maxRecDepth 100000 in
set_option maxHeartbeats 1000000 in
theorem i_rolesWith1 (p : Rt) (q b cnt : Nat) (L : List Rt) (w : World) (hq : w.cell? ⟨q, 0, none⟩ = some (.map (some b))) (hmap : RMap w b cnt L) (hp : okRt p) (r : Bool) (hr : r = true ↔ p ∈ L) :
    Calls Try.prog 96 #[.agg #[.string p.1, .int .i64 p.2], .pointer (some ⟨q, 0, none⟩)] w fun e w' => e = .returned (.bool (!r)) ∧ Below w.heap.size w w' := by
  have hlt := World.block_lt_of_cell? w _ hq
  have hq1 := fun o => (World.cell?_alloc_lt w o _ hlt).trans hq
  have hlook := (hmap.alloc (.cells #[.string p.1, .int .i64 p.2] 89)).look hp r hr
  unfold rtV at hlook
  go_enter Try.func96, Try.ntmps96
  go_wp2
  go_ret
  exact ⟨rfl, by (repeat (first | exact Below.refl _ _ | assumption | refine Below.drew ?_ | refine Below.alloc ?_ (by first | omega | (simp; done) | (simp; omega) | exact Below.size (by assumption)) _ | refine Below.setCell ?_ (by first | omega | (simp; done) | (simp; omega)) _))⟩
set_option maxRecDepth 100000 in
set_option maxHeartbeats 2000000 in
theorem i_IndexRight (A : Option Addr) (n c q b cnt : Nat) (L R : List Rt) (w : World) (hr : Rd rightE w A n R) (hn : n ≤ 1048576) (hok : ∀ p ∈ R, okRt p) (hq : w.cell? ⟨q, 0, none⟩ = some (.map (some b))) (hmap : RMap w b cnt L) :
    Calls Try.prog 110 #[.slice A n c, .func (.func 96) #[] #[.pointer (some ⟨q, 0, none⟩)]] w fun e w' => ∃ v : Int, e = .returned (.int .i64 v) ∧ (0 ≤ v ↔ hasAll L R = false) ∧ -1 ≤ v ∧ v ≤ 1048576 ∧ Below w.heap.size w w' := by
  have Hl := Lib.hid hr.1
  have HO := Lib.hid hok
  clear hok
  go_enter Try.func110, Try.ntmps110
  go_wp2_with fail
  go_loopw [8] (fun i wr => ∃ k : Nat, k ≤ n ∧ i = .int .i64 k ∧ Below w.heap.size w wr ∧ Hid (∀ (j : Nat) p, j < k → R[j]? = some p → p ∈ L)) (fun i _ => n - (intOf i).toNat)
  case atStart => exact ⟨0, Nat.zero_le _, rfl, Below.refl _ _, Lib.hid (fun j x h => absurd h (Nat.not_lt_zero _))⟩
  case round =>
    obtain ⟨k, hk, rfl, hb, HH⟩ := hrel
    by_cases hlt : k < n
    · obtain ⟨b0, off, p, rfl, hp, hc⟩ := hr.get hlt
      have hc0 := range_below (B := 0) hc hb 0 (.string p.1) rfl
      have hc1 := range_below (B := 0) hc hb 1 (.int .i64 p.2) rfl
      simp only [rightE, Nat.add_zero] at hc0 hc1
      have HP := Lib.hid hp
      have hokp := HO.out p (mem_of_get hp)
      clear hc hp
      have hq' := cell_later hb hq
      have hmap' := hmap.below hb
      by_cases hm : p ∈ L
      · have HM := Lib.hid hm
        have HN : Hid (∀ (j : Nat) p, j < k + 1 → R[j]? = some p → p ∈ L) := Lib.hid (fun j y hj hy => by
          rcases Nat.lt_or_ge j k with h | h
          · exact HH.out j y h hy
          · obtain rfl : j = k := by omega
            rw [HP.out] at hy; cases hy
            exact HM.out)
        have hcall := i_rolesWith1 p q b cnt L wr hq' hmap' hokp true (by simp [hm])
        clear hm hq' hmap'
        go_wp2_with fail
        refine hcall.mono ?_
        rintro e w1 ⟨rfl, hb1⟩
        have hb2 := hb.trans (hb1.mono hb.size)
        clear hcall
        go_wp2
        first | (refine ⟨⟨k + 1, by omega, by go_num, hb2, HN⟩, ?_⟩; (simp [intOf]; omega)) | (go_roundw; (case rel => first | exact ⟨k + 1, by omega, by go_num, hb2, HN⟩ | ((try refine ⟨trivial, ?_⟩); (repeat apply Exists.intro); exact ⟨⟨k + 1, by omega, by go_num, hb2, HN⟩, rfl⟩)); (case measure => (simp [intOf]; omega)))
      · have HF : Hid (hasAll L R = false) := Lib.hid (hasAll_false.2 (fun h => hm (h p (List.mem_of_getElem? HP.out))))
        have hcall := i_rolesWith1 p q b cnt L wr hq' hmap' hokp false (by simp [hm])
        clear hm hq' hmap'
        go_wp2_with fail
        refine hcall.mono ?_
        rintro e w1 ⟨rfl, hb1⟩
        have hb2 := hb.trans (hb1.mono hb.size)
        clear hcall
        go_wp2
        go_ret
        exact ⟨k, rfl, ⟨fun _ => HF.out, fun _ => by omega⟩, by omega, by omega, hb2⟩
    · have HF : Hid (hasAll L R = true) := Lib.hid (hasAll_true.2 (fun p hp => by
        obtain ⟨j, hj⟩ := List.mem_iff_getElem?.1 hp
        exact HH.out j p (by have := (List.getElem?_eq_some_iff.1 hj).1; have := Hl.out; omega) hj))
      go_wp2
      go_ret
      exact ⟨-1, rfl, ⟨fun h => by omega, fun h => by rw [HF.out] at h; cases h⟩, by omega, by omega, hb⟩
set_option maxRecDepth 100000 in
set_option maxHeartbeats 1000000 in
theorem i_ContainsRight (A : Option Addr) (n c q b cnt : Nat) (L R : List Rt) (w : World) (hr : Rd rightE w A n R) (hn : n ≤ 1048576) (hok : ∀ p ∈ R, okRt p) (hq : w.cell? ⟨q, 0, none⟩ = some (.map (some b))) (hmap : RMap w b cnt L) :
    Calls Try.prog 95 #[.slice A n c, .func (.func 96) #[] #[.pointer (some ⟨q, 0, none⟩)]] w fun e w' => e = .returned (.bool (!(hasAll L R))) ∧ Below w.heap.size w w' := by
  go_enter Try.func95, Try.ntmps95
  go_wp2_with fail
  refine (i_IndexRight A n c q b cnt L R w hr hn hok hq hmap).mono ?_
  rintro e w1 ⟨v, rfl, hv, hv1, hv2, hb⟩
  have HE : Hid (decide (0 ≤ v) = !(hasAll L R)) := Lib.hid (by
    cases hh : hasAll L R
    · rw [decide_eq_true (hv.2 hh)]; rfl
    · rw [decide_eq_false (fun h => by rw [hv.1 h] at hh; cases hh)]; rfl)
  clear hv
  go_wp2
  go_ret
  exact ⟨ret_bool HE.out, hb⟩
set_option maxRecDepth 100000 in
set_option maxHeartbeats 4000000 in
theorem i_rolesWith (A1 : Option Addr) (n1 c1 : Nat) (rl : List DRole) (A : Option Addr) (n c : Nat) (l : List DGrant) (A2 : Option Addr) (n2 c2 : Nat) (R : List Rt) (w : World) (hrl : RdRole w A1 n1 rl) (hn1 : n1 ≤ 1048576) (hs1 : sumRole rl ≤ 1048576)
    (hr : Rd grantE w A n l) (hn : n ≤ 1048576) (hB : grantsB rl l = true) (hr2 : Rd rightE w A2 n2 R) (hn2 : n2 ≤ 1048576) (hokR : ∀ p ∈ R, okRt p) :
    Calls Try.prog 76 #[.slice A1 n1 c1, .slice A n c, .slice A2 n2 c2] w (RetL strE 9 (whoN rl l R) w) := by
  have Hl1 := Lib.hid hrl.len
  have HB := Lib.hid hB
  have HO := Lib.hid hokR
  clear hB hokR
  obtain ⟨i0, hi, hz0, hz1, hz2⟩ := info_parts Try.info_str
  have hb2 : Below w.heap.size w (w.alloc (.cells #[] 9)) := by (repeat (first | exact Below.refl _ _ | assumption | refine Below.drew ?_ | refine Below.alloc ?_ (by first | omega | (simp; done) | (simp; omega) | exact Below.size (by assumption)) _ | refine Below.setCell ?_ (by first | omega | (simp; done) | (simp; omega)) _))
  go_enter Try.func76, Try.ntmps76
  go_wp2_with fail
  go_loopw [14, 7] (fun i v wr => ∃ (k : Nat) (kn : List ByteArray), k ≤ n1 ∧ i = .int .i64 k ∧ Below w.heap.size w wr ∧ GL strE 9 w.heap.size wr v kn ∧ kn.length ≤ k ∧ Hid (kn = undTo rl (whoM rl l R) k)) (fun i _ _ => n1 - (intOf i).toNat)
  case atStart => exact ⟨0, [], Nat.zero_le _, rfl, hb2, GL.mk0 (Nat.le_refl _), Nat.le_refl _, Lib.hid rfl⟩
  case round =>
    clear hb2
    obtain ⟨k, kn, hk, rfl, hb, hgl, hkn, HH⟩ := hrel
    obtain ⟨Ak, ck, rfl⟩ := hgl.form
    by_cases hlt : k < n1
    · obtain ⟨b, off, x, A', n', c', rfl, hx, hc, hru⟩ := hrl.get hlt
      have hc0 := range_below (B := 0) hc hb 0 _ rfl
      have hc1 := range_below (B := 0) hc hb 1 _ rfl
      simp only [Nat.add_zero] at hc0
      have HX := Lib.hid hx
      have hfk := Lib.hid (fnd_self (roles_inj (grants_roles HB.out)) hx)
      have HW := Lib.hid (whoM_get (l := l) (R := R) (rl := rl) (k := k) (by have := Hl1.out; omega))
      clear hc hru hx
      have hcx := range_new wr #[.string x.name, .slice A' n' c'] 70
      have hb0 : Below w.heap.size w (wr.alloc (.cells #[.string x.name, .slice A' n' c'] 70)) := hb.alloc hb.size _
      have hgl0 := hgl.alloc (.cells #[.string x.name, .slice A' n' c'] 70)
      obtain ⟨W0, hW0⟩ : ∃ W0, wr.alloc (.cells #[.string x.name, .slice A' n' c'] 70) = W0 := ⟨_, rfl⟩
      rw [hW0] at hcx hb0 hgl0
      have hx0 := hcx 0 (.string x.name) rfl
      simp only [Nat.zero_add] at hx0
      have hro := i_rightsOf (some ⟨b, off, none⟩) n1 c1 rl A n c l k x.name W0 (hrl.below hb0) hn1 hs1 (hr.below hb0) hn (grants_roles HB.out) (sorted_of_grants HB.out).ok hfk.out
      go_wp2_with fail
      try rw [hW0]
      clear hW0 hcx hgl hc0 hc1
      refine hro.mono ?_
      rintro e w3 ⟨bm, cnt, rfl, hmap, hb3⟩
      have hx1 := cell_later hb3 hx0
      have hgl3 := hgl0.below hb3
      have hbF := hb0.trans (hb3.mono hb0.size)
      clear hro hb0 hb3 hx0 hgl0
      have hbA : Below w3.heap.size w3 (w3.alloc (.cells #[.map (some bm)] 86)) := (Below.refl _ _).alloc (Nat.le_refl _) _
      have hqm := range_new w3 #[.map (some bm)] 86 0 _ rfl
      simp only [Nat.zero_add] at hqm
      have hmap4 := hmap.below hbA
      have hx2 := cell_later hbA hx1
      have hgl4 := hgl3.below hbA
      have hbG := hbF.trans (hbA.mono hbF.size)
      obtain ⟨W4, hW4⟩ : ∃ W4, w3.alloc (.cells #[.map (some bm)] 86) = W4 := ⟨_, rfl⟩
      rw [hW4] at hqm hmap4 hx2 hgl4 hbG
      have hcon := i_ContainsRight A2 n2 c2 w3.heap.size bm cnt (rightsT rl k l) R W4 (hr2.below hbG) hn2 HO.out hqm hmap4
      rcases hh : hasAll (rightsT rl k l) R with _ | _
      · have HK : Hid (kn = undTo rl (whoM rl l R) (k + 1)) := Lib.hid (by rw [HH.out, undTo_out (by rw [HW.out, hh])])
        rw [hh] at hcon
        clear hh hmap hgl3 hmap4 hqm
        go_wp2_with fail
        try rw [hW4]
        clear hW4
        refine hcon.mono ?_
        rintro e w5 ⟨rfl, hb5⟩
        have hgl5 := hgl4.below hb5
        have hbH := hbG.trans (hb5.mono hbG.size)
        clear hcon
        go_wp2
        first | (refine ⟨⟨k + 1, kn, by omega, by go_num, hbH, hgl5, by omega, HK⟩, ?_⟩; (simp [intOf]; omega)) | (go_roundw; (case rel => first | exact ⟨k + 1, kn, by omega, by go_num, hbH, hgl5, by omega, HK⟩ | ((try refine ⟨trivial, ?_⟩); (repeat apply Exists.intro); exact ⟨⟨k + 1, kn, by omega, by go_num, hbH, hgl5, by omega, HK⟩, rfl⟩)); (case measure => (simp [intOf]; omega)))
      · have HK : Hid (kn ++ [x.name] = undTo rl (whoM rl l R) (k + 1)) := Lib.hid (by rw [HH.out, undTo_in HX.out (by rw [HW.out, hh])])
        rw [hh] at hcon
        clear hh hmap hgl3 hmap4 hqm
        go_wp2_with fail
        try rw [hW4]
        clear hW4
        refine hcon.mono ?_
        rintro e w5 ⟨rfl, hb5⟩
        have hgl5 := hgl4.below hb5
        have hx5 := cell_later hb5 hx2
        have hbH := hbG.trans (hb5.mono hbG.size)
        have hbs := hbH.size
        clear hcon hx2 hx1 hgl4 hb5 hbG hbF
        go_wp2_with (at_builtin; refine wpList_push strE rfl _ _ 29 rfl w.heap.size 9 i0 _ 16 Try.underlying29 hi hz0 hz1 hz2 rfl (.slice Ak kn.length ck) kn x.name rfl (hgl5.alloc _) w5.heap.size rfl (range_new _ _ _) (by omega) (by decide) w (by (repeat (first | exact Below.refl _ _ | assumption | refine Below.drew ?_ | refine Below.alloc ?_ (by first | omega | (simp; done) | (simp; omega) | exact Below.size (by assumption)) _ | refine Below.setCell ?_ (by first | omega | (simp; done) | (simp; omega)) _))) (by simp; omega) ?_; intro A7 c7 w7 hgl7 hb7 _)
        first | (refine ⟨⟨k + 1, kn ++ [x.name], by omega, by go_num, hb7, hgl7, by simp; omega, HK⟩, ?_⟩; (simp [intOf]; omega)) | (go_roundw; (case rel => first | exact ⟨k + 1, kn ++ [x.name], by omega, by go_num, hb7, hgl7, by simp; omega, HK⟩ | ((try refine ⟨trivial, ?_⟩); (repeat apply Exists.intro); exact ⟨⟨k + 1, kn ++ [x.name], by omega, by go_num, hb7, hgl7, by simp; omega, HK⟩, rfl⟩)); (case measure => (simp [intOf]; omega)))
    · have E : Hid (kn = whoN rl l R) := Lib.hid (by rw [HH.out]; unfold whoN; have := Hl1.out; rw [show k = rl.length by omega])
      go_wp2
      go_ret
      exact RetL.mk hgl (by omega) E.out.symm hb

end Go.Proofs.Ytepegiklnhoobaa

/- The program's reading of a list of numbers, and of a name before one. -/
import Derived.Test.YtbdjhecbingcjaaGreatDoorRows
import Derived.Test.YtbdjhecbingcjaaGreatDoorIReads
import Derived.Test.YtbdjhecbingcjaaGreatDoorSList
import Derived.Test.YtbdjhecbingcjaaGreatDoorTouch
namespace Go.Proofs.YtbdjhecbingcjaaGreatDoor
set_option linter.unusedVariables false
set_option linter.unusedSimpArgs false
set_option linter.unusedSectionVars false
open Go.RowKit

theorem numsOf_long {l : List UInt8} (h45 : l ≠ [45]) {k : Nat} (hk : 64 ≤ k) (hlt : k < (cutsL 44 l).length) : listL l = none := listL_long h45 (by omega)
theorem listL_bad {l p : List UInt8} (h45 : l ≠ [45]) {k : Nat} (hp : (cutsL 44 l)[k]? = some p) (hn : numIn p = none) : listL l = none := by
  unfold listL
  rw [if_neg h45]
  split
  · rfl
  · exact numsOf_bad hp hn
set_option maxHeartbeats 2000000 in
theorem i_ReadList (s : ByteArray) (w : World) (hs : s.size ≤ 1048576) (hL : LibW w) :
    Calls Tryz.prog 34 #[.string s] w (ListP s.data.toList w) := by
  by_cases h45 : s.data.toList = [45]
  · have ht := eq_dash h45
    have E : Hid (listL s.data.toList = some []) := Lib.hid (by rw [h45]; rfl)
    clear h45
    go_enter Tryz.func34, Tryz.ntmps34
    go_wp2
    go_ret2
    exact ListP.ok E.out rfl GL.nil (Below.refl _ _)
  · have ht := ne_dash h45
    have H45 := Lib.hid h45; clear h45
    have hb1 : Below w.heap.size w (w.alloc (.cells #[] 2)) := by (repeat (first | exact Below.refl _ _ | assumption | refine Below.drew ?_ | refine Below.alloc ?_ (by first | omega | (simp; done) | (simp; omega) | exact Below.size (by assumption)) _ | refine Below.setCell ?_ (by first | omega | (simp; done) | (simp; omega)) _))
    have hgo : GL intE 2 w.heap.size (w.alloc (.cells #[] 2)) (.slice (some ⟨w.heap.size, 0, none⟩) 0 0) [] := GL.mk0 (Nat.le_refl _)
    obtain ⟨W1, hW1⟩ : ∃ W1, w.alloc (.cells #[] 2) = W1 := ⟨_, rfl⟩
    have hsW : w.heap.size < W1.heap.size := by rw [← hW1]; simp
    rw [hW1] at hb1 hgo
    go_enter Tryz.func34, Tryz.ntmps34
    go_wp2_with fail
    try rw [hW1]
    clear hW1
    refine (i_Split s 44 _ hs (hL.below hb1)).mono ?_
    rintro e w1 ⟨A, n, c, hl, hn, rfl, hgl, hb⟩
    have hll : (cutsL 44 s.data.toList).length = n := by rw [← hl]; unfold cutsB; simp
    have HLL := Lib.hid hll
    have hb2 : Below w.heap.size w w1 := hb1.trans (hb.mono hb1.size)
    have hz1 := hb1.size
    have hz2 := hb.size
    have hlt1 : w.heap.size < W1.heap.size := hsW
    have hgo1 := hgo.below hb
    obtain ⟨F, hFd⟩ : ∃ F : Nat → Prop, ∀ k, F k ↔ (k = w.heap.size ∨ w1.heap.size ≤ k) := ⟨_, fun _ => Iff.rfl⟩
    have hFlo : ∀ k, F k → w.heap.size ≤ k := fun k hk => by have := (hFd k).1 hk; omega
    have hol : OL intE 2 F w1 (some ⟨w.heap.size, 0, none⟩) 0 0 [] := ⟨(hgo1.mono (Nat.zero_le _)).own.2, rfl, fun k hk => (hFd k).2 (.inl (by cases hk; rfl))⟩
    have hrd1 := hgl.rd
    have hnF : ∀ b off, A = some ⟨b, off, none⟩ → ¬ F b := fun b off e hF => by
      obtain ⟨h1, h2⟩ := hgl.own.2.lt b (by rw [e]; rfl)
      have := (hFd b).1 hF
      omega
    have HFD := Lib.hid hFd; clear hFd
    clear hl hll hgl hgo hgo1 hb1
    go_wp2_with fail
    go_loopw [4, 15] (fun v i wr => ∃ (k : Nat) (r : List Int) (A' : Option Addr) (c' : Nat), k ≤ n ∧ i = .int .i64 k ∧ v = .slice A' r.length c' ∧ OL intE 2 F wr A' r.length c' r ∧ Hid (r.length = k ∧ k ≤ 64) ∧ Touch F w1 wr ∧ Hid (numsOf ((cutsL 44 s.data.toList).take k) = some r)) (fun _ i _ => n - (intOf i).toNat)
    case atStart => exact ⟨0, [], _, _, Nat.zero_le _, rfl, rfl, hol, Lib.hid ⟨rfl, by omega⟩, Touch.refl _ _, Lib.hid rfl⟩
    case round =>
      obtain ⟨k, r, A', c', hk, rfl, rfl, hor, hrk, ht', HH⟩ := hrel
      have hts := ht'.size
      have hbr : Below w.heap.size w wr := Below.touch hb2 ht' hFlo (by omega)
      by_cases hlt : k < n
      · obtain ⟨b, off, p, hAe, hp, hcs⟩ := hrd1.get hlt
        subst hAe
        have hc0 := range_touch hcs ht' (hnF _ _ rfl) 0 (.string p) rfl
        simp only [strE, Nat.mul_one, Nat.add_zero] at hc0
        have HP := Lib.hid (cutsB_get hp)
        have hpz := piece_size hp
        clear hcs hp
        go_wp2_with fail
        refine (i_ReadDecimal p _ (by omega) (hL.below hbr)).mono ?_
        rintro e w2 ⟨rfl, hb3⟩
        have hbr2 := hbr.trans (hb3.mono hbr.size)
        rcases hok : numOk p with _ | _
        · have E : Hid (listL s.data.toList = none) := Lib.hid (listL_bad H45.out HP.out (numIn_bad hok))
          clear hok
          go_wp2
          go_ret2
          exact ListP.bad E.out hbr2
        · have HO := Lib.hid hok; clear hok
          go_wp2_with fail
          refine (i_within _ _ _ _).mono ?_
          rintro e w3 ⟨rfl, rfl⟩
          rcases hin : inB (numV p) (-1000000000000) 1000000000000 with _ | _
          · have E : Hid (listL s.data.toList = none) := Lib.hid (listL_bad H45.out HP.out (by rw [numIn_good HO.out, hin]; rfl))
            clear hin
            go_wp2
            go_ret2
            exact ListP.bad E.out hbr2
          · by_cases h64 : r.length = 64
            · have E : Hid (listL s.data.toList = none) := Lib.hid (numsOf_long H45.out (k := k) (by have := hrk.out.1; omega) (by rw [HLL.out]; exact hlt))
              have h64' : ((r.length : Int) == 64) = true := by rw [beq_iff_eq]; omega
              clear hin h64
              go_wp2
              go_ret2
              exact ListP.bad E.out hbr2
            · have HK : Hid (numsOf ((cutsL 44 s.data.toList).take (k + 1)) = some (r ++ [numV p])) := Lib.hid (numsOf_step HP.out (by rw [numIn_good HO.out, hin]; rfl) HH.out)
              have h64' : ((r.length : Int) == 64) = false := by rw [beq_eq_false_iff_ne]; omega
              have HRK : Hid (r.length + 1 = k + 1 ∧ k + 1 ≤ 64) := Lib.hid (by have := hrk.out; omega)
              obtain ⟨i0, HI⟩ := info_hid Tryz.info_int
              have hz3 := hb3.size
              have hor2 := hor.below hb3
              have ht2 := ht'.trans (Touch.of_below hb3)
              clear hin h64
              go_wp2_with (at_builtin; refine wpList_pushT intE rfl _ _ 26 rfl 2 i0 _ 8 Tryz.underlying26 HI.out.1 HI.out.2.1 HI.out.2.2.1 HI.out.2.2.2 rfl F A' r.length c' r (numV p) rfl (hor2.alloc _) w2.heap.size rfl (range_new _ _ _) ((HFD.out _).2 (.inr (by simp; omega))) (by have := hrk.out; omega) (by decide) ?_; intro A2 c2 w3 hor3 ht3)
              have ht4 := ht2.trans ((Touch.alloc _ _).trans ht3)
              first | (refine ⟨⟨k + 1, r ++ [numV p], A2, c2, by omega, by go_num, by simp, by simpa using hor3, Lib.hid (by have := HRK.out; simp; omega), ht4, HK⟩, ?_⟩; (simp [intOf]; omega)) | (go_roundw; (case rel => first | exact ⟨k + 1, r ++ [numV p], A2, c2, by omega, by go_num, by simp, by simpa using hor3, Lib.hid (by have := HRK.out; simp; omega), ht4, HK⟩ | ((try refine ⟨trivial, ?_⟩); (repeat apply Exists.intro); exact ⟨⟨k + 1, r ++ [numV p], A2, c2, by omega, by go_num, by simp, by simpa using hor3, Lib.hid (by have := HRK.out; simp; omega), ht4, HK⟩, rfl⟩)); (case measure => (simp [intOf]; omega)))
      · have E : Hid (listL s.data.toList = some r) := Lib.hid (by
          have h1 := HH.out
          rw [List.take_of_length_le (by rw [HLL.out]; omega)] at h1
          unfold listL
          rw [if_neg H45.out, if_neg (by rw [HLL.out]; have := hrk.out; omega), h1])
        go_wp2
        go_ret2
        exact ListP.ok E.out rfl (hor.toGL hFlo) hbr

end Go.Proofs.YtbdjhecbingcjaaGreatDoor

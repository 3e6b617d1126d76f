/- The reference's reading of a list of numbers, and of a name before one. -/
import Derived.Test.YtdkpgcnjlamcbaaGreatDoorRows
import Derived.Test.YtdkpgcnjlamcbaaGreatDoorSNum
namespace Go.Proofs.YtdkpgcnjlamcbaaGreatDoor
set_option linter.unusedVariables false
set_option linter.unusedSimpArgs false
set_option linter.unusedSectionVars false
open Go.RowKit

theorem Tryz.info_int : (Tryz.prog.info? 2).map (fun i => (i.zero, i.size, i.bytes)) = some (some (.int .i64 0), 1, 8) := by kernel_rfl

theorem info_hid {P : Program} {t : TypeId} {z : Option Value} {s b : Nat} (h : (P.info? t).map (fun i => (i.zero, i.size, i.bytes)) = some (z, s, b)) : ∃ i, Hid (P.info? t = some i ∧ i.zero = z ∧ i.size = s ∧ i.bytes = b) := by
  cases hi : P.info? t with
  | none => rw [hi] at h; cases h
  | some i =>
    rw [hi] at h
    simp only [Option.map_some, Option.some.injEq, Prod.mk.injEq] at h
    exact ⟨i, Lib.hid ⟨rfl, h.1, h.2.1, h.2.2⟩⟩
/-- what a reader of a list leaves -/
def ListP (l : List UInt8) (w : World) (e : Ending) (w' : World) : Prop :=
  (listL l = none ∧ ∃ A n c, e = .returned (.tuple #[.slice A n c, .bool false]) ∧ Below w.heap.size w w') ∨
  ∃ ns A c, listL l = some ns ∧ e = .returned (.tuple #[.slice A ns.length c, .bool true]) ∧ GL intE 2 w.heap.size w' (.slice A ns.length c) ns ∧ Below w.heap.size w w'
theorem ListP.bad {l : List UInt8} {w w' : World} {A : Option Addr} {n c : Nat} (h : listL l = none) (hb : Below w.heap.size w w') : ListP l w (.returned (.tuple #[.slice A n c, .bool false])) w' := .inl ⟨h, A, n, c, rfl, hb⟩
theorem ListP.ok {l : List UInt8} {w w' : World} {A : Option Addr} {n c : Nat} {ns : List Int} (h : listL l = some ns) (hn : ns.length = n) (hg : GL intE 2 w.heap.size w' (.slice A n c) ns) (hb : Below w.heap.size w w') : ListP l w (.returned (.tuple #[.slice A n c, .bool true])) w' := by
  subst hn
  exact .inr ⟨ns, A, c, h, rfl, hg, hb⟩
/-- what a reader of a name and k numbers leaves -/
def TwoP (k : Nat) (l : List UInt8) (w : World) (e : Ending) (w' : World) : Prop :=
  (namedL k l = none ∧ ∃ x A n c, e = .returned (.tuple #[.string x, .slice A n c, .bool false]) ∧ Below w.heap.size w w') ∨
  ∃ a ns A c, namedL k l = some (a, ns) ∧ ns.length = k ∧ e = .returned (.tuple #[.string (ofL a), .slice A k c, .bool true]) ∧ GL intE 2 w.heap.size w' (.slice A k c) ns ∧ Below w.heap.size w w'
theorem eq_dash {s : ByteArray} (h : s.data.toList = [45]) : (s.toList == [45]) = true := by rw [ByteArray.toList_eq, h]; rfl
theorem ne_dash {s : ByteArray} (h : s.data.toList ≠ [45]) : (s.toList == [45]) = false := by rw [ByteArray.toList_eq, beq_eq_false_iff_ne]; exact h
theorem listL_long {l : List UInt8} (h : l ≠ [45]) (hl : 64 < (cutsL 44 l).length) : listL l = none := by unfold listL; rw [if_neg h, if_pos hl]
theorem listL_nums {l : List UInt8} (h : l ≠ [45]) (hl : ¬ 64 < (cutsL 44 l).length) : listL l = numsOf (cutsL 44 l) := by unfold listL; rw [if_neg h, if_neg hl]
theorem cutsB_get {c : UInt8} {s p : ByteArray} {k : Nat} (h : (cutsB c s)[k]? = some p) : (cutsL c s.data.toList)[k]? = some p.data.toList := by
  unfold cutsB at h
  rw [List.getElem?_map] at h
  cases h1 : (cutsL c s.data.toList)[k]? with
  | none => rw [h1] at h; cases h
  | some q => rw [h1] at h; simp only [Option.map_some, Option.some.injEq] at h; rw [← h, ofL_data]
theorem cuts_sub {c : UInt8} {l p : List UInt8} (h : p ∈ cutsL c l) : p.length ≤ l.length := by
  induction l generalizing p with
  | nil => simp [cutsL] at h; subst h; simp
  | cons x r ih =>
    by_cases hx : x = c
    · subst hx
      rw [cutsL_hit] at h
      rcases List.mem_cons.1 h with rfl | h
      · simp
      · have := ih h; simp; omega
    · rw [cutsL_miss hx] at h
      cases hc : cutsL c r with
      | nil => exact absurd hc (cutsL_ne c r)
      | cons a b =>
        rw [hc] at h ih
        rcases List.mem_cons.1 h with rfl | h
        · have := ih (List.mem_cons_self ..); simp; omega
        · have := ih (List.mem_cons_of_mem _ h); simp; omega
theorem piece_size {c : UInt8} {s p : ByteArray} {k : Nat} (h : (cutsB c s)[k]? = some p) : p.size ≤ s.size := by
  have h1 := cuts_sub (List.mem_of_getElem? (cutsB_get h))
  simpa using h1
theorem numIn_bad {p : ByteArray} (h : numOk p = false) : numIn p.data.toList = none := by
  unfold numOk at h
  unfold numIn
  cases hn : numL p.data.toList with
  | none => rfl
  | some n => rw [hn] at h; cases h
theorem numIn_good {p : ByteArray} (h : numOk p = true) : numIn p.data.toList = if inB (numV p) (-1000000000000) 1000000000000 then some (numV p) else none := by
  unfold numOk at h
  unfold numIn numV
  cases hn : numL p.data.toList with
  | none => rw [hn] at h; cases h
  | some n => simp only [Option.getD_some]; unfold inB; simp only [Bool.and_eq_true, decide_eq_true_eq]

set_option maxHeartbeats 2000000 in
theorem s_ReadList (s : ByteArray) (w : World) (hs : s.size ≤ 1048576) :
    Calls Tryz.prog 13 #[.string s] w (ListP s.data.toList w) := by
  by_cases h45 : s.data.toList = [45]
  · have ht := eq_dash h45
    have E : Hid (listL s.data.toList = some []) := Lib.hid (by rw [h45]; rfl)
    clear h45
    go_enter Tryz.func13, Tryz.ntmps13
    go_wp2
    go_ret2
    exact ListP.ok E.out rfl (GL.mk0 (Nat.le_refl _)) (by (repeat (first | exact Below.refl _ _ | assumption | refine Below.drew ?_ | refine Below.alloc ?_ (by first | omega | (simp; done) | (simp; omega) | exact Below.size (by assumption)) _ | refine Below.setCell ?_ (by first | omega | (simp; done) | (simp; omega)) _)))
  · have ht := ne_dash h45
    have H45 := Lib.hid h45; clear h45
    go_enter Tryz.func13, Tryz.ntmps13
    go_wp2_with fail
    refine (s_l01Split s 44 _ hs).mono ?_
    rintro e w1 ⟨A, n, c, hl, hn, ho, rfl, hb⟩
    have hgl : GL strE 9 w.heap.size w1 (.slice A n c) (cutsB 44 s) := by unfold GL; rw [hl]; exact ho
    have hll : (cutsL 44 s.data.toList).length = n := by rw [← hl]; unfold cutsB; simp
    clear ho
    by_cases h64 : 64 < n
    · have E : Hid (listL s.data.toList = none) := Lib.hid (listL_long H45.out (by omega))
      clear hl hll
      go_wp2
      go_ret2
      exact ListP.bad E.out hb
    · have EN := Lib.hid (listL_nums H45.out (by rw [hll]; exact h64))
      have HL := Lib.hid hl
      have HLL := Lib.hid hll
      have hb1 : Below w1.heap.size w1 (w1.alloc (.cells #[] 2)) := by (repeat (first | exact Below.refl _ _ | assumption | refine Below.drew ?_ | refine Below.alloc ?_ (by first | omega | (simp; done) | (simp; omega) | exact Below.size (by assumption)) _ | refine Below.setCell ?_ (by first | omega | (simp; done) | (simp; omega)) _))
      have hgo : GL intE 2 w1.heap.size (w1.alloc (.cells #[] 2)) (.slice (some ⟨w1.heap.size, 0, none⟩) 0 0) [] := GL.mk0 (Nat.le_refl _)
      have hrd1 := hgl.rd
      clear hl hll hgl
      go_wp2_with fail
      go_loopw [5, 6] (fun v i wr => ∃ (k : Nat) (r : List Int) (A' : Option Addr) (c' : Nat), k ≤ n ∧ i = .int .i64 k ∧ v = .slice A' r.length c' ∧ GL intE 2 w1.heap.size wr (.slice A' r.length c') r ∧ Hid (r.length = k) ∧ Below w1.heap.size w1 wr ∧ Hid (numsOf ((cutsL 44 s.data.toList).take k) = some r)) (fun _ i _ => n - (intOf i).toNat)
      case atStart => exact ⟨0, [], _, _, Nat.zero_le _, rfl, rfl, hgo, Lib.hid rfl, hb1, Lib.hid rfl⟩
      case round =>
        obtain ⟨k, r, A', c', hk, rfl, rfl, hgr, hrk, hbr, HH⟩ := hrel
        have hbs := hbr.size
        by_cases hlt : k < n
        · obtain ⟨b, off, p, hAe, hp, hcs⟩ := (hrd1.below hbr).get hlt
          subst hAe
          have hc0 := hcs 0 (.string p) rfl
          simp only [strE, Nat.mul_one, Nat.add_zero] at hc0
          have HP := Lib.hid (cutsB_get hp)
          have hpz := piece_size hp
          clear hcs hp
          go_wp2_with fail
          refine (s_l01Number p _ (by unfold maxLen; omega)).mono ?_
          rintro e w2 ⟨rfl, rfl⟩
          rcases hok : numOk p with _ | _
          · have E : Hid (listL s.data.toList = none) := Lib.hid (by rw [EN.out, numsOf_bad HP.out (numIn_bad hok)])
            clear hok
            go_wp2
            go_ret2
            exact ListP.bad E.out (hb.trans (hbr.mono hb.size))
          · have HO := Lib.hid hok; clear hok
            go_wp2_with fail
            refine (s_l00In _ _ _ _).mono ?_
            rintro e w2 ⟨rfl, rfl⟩
            rcases hin : inB (numV p) (-1000000000000) 1000000000000 with _ | _
            · have E : Hid (listL s.data.toList = none) := Lib.hid (by rw [EN.out, numsOf_bad HP.out (by rw [numIn_good HO.out, hin]; rfl)])
              clear hin
              go_wp2
              go_ret2
              exact ListP.bad E.out (hb.trans (hbr.mono hb.size))
            · have HK : Hid (numsOf ((cutsL 44 s.data.toList).take (k + 1)) = some (r ++ [numV p])) := Lib.hid (numsOf_step HP.out (by rw [numIn_good HO.out, hin]; rfl) HH.out)
              clear hin
              obtain ⟨i0, HI⟩ := info_hid Tryz.info_int
              go_wp2_with (at_builtin; refine wpList_push intE rfl _ _ 30 rfl w1.heap.size 2 i0 _ 8 Tryz.underlying30 HI.out.1 HI.out.2.1 HI.out.2.2.1 HI.out.2.2.2 rfl (.slice A' r.length c') r (numV p) rfl (hgr.alloc _) wr.heap.size rfl (range_new _ _ _) (by have := hrk.out; omega) (by decide) w1 (by (repeat (first | exact Below.refl _ _ | assumption | refine Below.drew ?_ | refine Below.alloc ?_ (by first | omega | (simp; done) | (simp; omega) | exact Below.size (by assumption)) _ | refine Below.setCell ?_ (by first | omega | (simp; done) | (simp; omega)) _))) (by simp; omega) ?_; intro A2 c2 w2 hgl2 hb2 _)
              first | (refine ⟨⟨k + 1, r ++ [numV p], A2, c2, by omega, by go_num, by simp, by simpa using hgl2, Lib.hid (by have := hrk.out; simp; omega), hb2, HK⟩, ?_⟩; (simp [intOf]; omega)) | (go_roundw; (case rel => first | exact ⟨k + 1, r ++ [numV p], A2, c2, by omega, by go_num, by simp, by simpa using hgl2, Lib.hid (by have := hrk.out; simp; omega), hb2, HK⟩ | ((try refine ⟨trivial, ?_⟩); (repeat apply Exists.intro); exact ⟨⟨k + 1, r ++ [numV p], A2, c2, by omega, by go_num, by simp, by simpa using hgl2, Lib.hid (by have := hrk.out; simp; omega), hb2, HK⟩, rfl⟩)); (case measure => (simp [intOf]; omega)))
        · have E : Hid (listL s.data.toList = some r) := Lib.hid (by
            have h1 := HH.out
            rw [List.take_of_length_le (by rw [HLL.out]; omega)] at h1
            rw [EN.out, h1])
          go_wp2
          go_ret2
          exact ListP.ok E.out rfl (hgr.mono hb.size) (hb.trans (hbr.mono hb.size))

end Go.Proofs.YtdkpgcnjlamcbaaGreatDoor

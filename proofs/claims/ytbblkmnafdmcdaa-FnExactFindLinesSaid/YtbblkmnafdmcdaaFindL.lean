/- The lines in which a word comes in. -/
import Derived.Test.YtbblkmnafdmcdaaRows
import Derived.Test.YtbblkmnafdmcdaaShelf
import Derived.Test.YtbblkmnafdmcdaaLibW
import Derived.Test.YtbblkmnafdmcdaaSort
import Derived.Test.YtbblkmnafdmcdaaTwo
import Derived.Lib.IndexBytes
import Derived.Lib.IndexMore
namespace Go.Proofs.Ytbblkmnafdmcdaa
set_option linter.unusedVariables false
set_option linter.unusedSimpArgs false
set_option linter.unusedSectionVars false
open Go.RowKit

theorem Try.info_i64 : (Try.prog.info? 2).map (fun i => (i.zero, i.size, i.bytes)) = some (some (.int .i64 0), 1, 8) := by kernel_rfl
def hasB (s t : ByteArray) : Bool := Lib.contains s.data.toList t.data.toList
theorem has_at {s t : ByteArray} {i : Nat} (h : Lib.NoOccB s t i) (hi : i + t.size ≤ s.size) (hp : ((s.extract i (i + t.size)).toList == t.toList) = true) : hasB s t = true := by
  have h1 := Lib.hit s t i h hi hp
  unfold hasB Lib.contains
  rw [show Lib.index s.data.toList t.data.toList = (i : Int) from h1]
  simp
theorem has_past {s t : ByteArray} {i : Nat} (h : Lib.NoOccB s t i) (h1 : 1 ≤ t.size) (hi : s.size < i + t.size) : hasB s t = false := by
  have h2 := Lib.past s t i h h1 hi
  unfold hasB Lib.contains
  rw [show Lib.index s.data.toList t.data.toList = -1 from h2]
  decide
/-- the places, from k on, of what has p -/
def placesB (p : ByteArray → Bool) : List ByteArray → Nat → List Int
  | [], _ => []
  | x :: r, k => if p x then (k : Int) :: placesB p r (k + 1) else placesB p r (k + 1)
theorem places_snoc (p : ByteArray → Bool) : ∀ (l : List ByteArray) (x : ByteArray) (k : Nat), placesB p (l ++ [x]) k = placesB p l k ++ (if p x then [((k + l.length : Nat) : Int)] else [])
  | [], x, k => by simp [placesB]
  | y :: r, x, k => by
    rw [List.cons_append, placesB, placesB, places_snoc p r x (k + 1)]
    have e : k + 1 + r.length = k + (y :: r).length := by simp; omega
    rw [e]
    by_cases h : p y = true
    · rw [if_pos h, if_pos h]; rfl
    · rw [if_neg h, if_neg h]
theorem take_snoc' {α : Type} {l : List α} {k : Nat} {x : α} (h : l[k]? = some x) : l.take (k + 1) = l.take k ++ [x] := by
  rw [List.take_add_one, h]; rfl
theorem places_in {p : ByteArray → Bool} {l : List ByteArray} {k : Nat} {x : ByteArray} (h : l[k]? = some x) (hp : p x = true) : placesB p (l.take (k + 1)) 0 = placesB p (l.take k) 0 ++ [(k : Int)] := by
  rw [take_snoc' h, places_snoc, if_pos hp, List.length_take]
  have := (List.getElem?_eq_some_iff.1 h).1
  rw [Nat.min_eq_left (by omega), Nat.zero_add]
theorem places_out {p : ByteArray → Bool} {l : List ByteArray} {k : Nat} {x : ByteArray} (h : l[k]? = some x) (hp : p x = false) : placesB p (l.take (k + 1)) 0 = placesB p (l.take k) 0 := by
  rw [take_snoc' h, places_snoc, hp]
  simp
def findLn (l : List ByteArray) (t : ByteArray) : List Int := if repB l then (if t.toList == [] then [] else placesB (hasB · t) l 0) else []
def findCode (l : List ByteArray) (t : ByteArray) : Int := if repB l then (if t.toList == [] then 2 else 0) else 1
theorem rep_size {ss : List ByteArray} (h : repB ss = true) : ∀ s ∈ ss, s.size ≤ 100 := by
  unfold repB at h
  rw [Bool.and_eq_true] at h
  intro s hs
  have h1 := List.all_eq_true.1 (show (linesB ss) = true from h.1) s hs
  unfold lineB at h1
  rw [Bool.and_eq_true] at h1
  have := of_decide_eq_true h1.2
  omega
theorem size_pos_of {t : ByteArray} (h : (t.toList == []) = false) : 1 ≤ t.size := by
  rcases Nat.eq_zero_or_pos t.size with h0 | h0
  · have : t.toList = [] := by
      rw [ByteArray.toList_eq]
      exact List.eq_nil_of_length_eq_zero (by simpa using h0)
    rw [this] at h
    cases h
  · exact h0

set_option maxHeartbeats 1000000 in
theorem s_l30Has (s t : ByteArray) (w : World) (hs : s.size ≤ 1048576) (ht : t.size ≤ 1048576) (h1 : 1 ≤ t.size) :
    Calls Try.prog 34 #[.string s, .string t] w fun e w' => e = .returned (.bool (hasB s t)) ∧ w = w' := by
  go_enter Try.func34, Try.ntmps34
  go_wp2
  go_loop [5] (fun i => ∃ k : Nat, k ≤ s.size ∧ i = .int .i64 k ∧ Hid (Lib.NoOccB s t k)) (fun i => s.size - (intOf i).toNat)
  case atStart => exact ⟨0, Nat.zero_le _, rfl, Lib.hid (Lib.NoOcc.zero _ _)⟩
  case round =>
    obtain ⟨k, hk, rfl, HN⟩ := hrel
    by_cases hlt : k + t.size ≤ s.size
    · rcases hp : ((s.extract k (k + t.size)).toList == t.toList) with _ | _
      · have HM := Lib.hid (Lib.miss_piece s t k HN.out hlt hp)
        go_wp2
        first | (refine ⟨⟨k + 1, by omega, by go_num, HM⟩, ?_⟩; (simp [intOf]; omega)) | (go_round; (case rel => first | exact ⟨k + 1, by omega, by go_num, HM⟩ | ((try refine ⟨trivial, ?_⟩); (repeat apply Exists.intro); exact ⟨⟨k + 1, by omega, by go_num, HM⟩, rfl⟩)); (case measure => (simp [intOf]; omega)))
      · have HE := Lib.hid (has_at HN.out hlt hp)
        go_wp2
        go_ret
        exact ⟨ret_bool HE.out.symm, rfl⟩
    · have HE := Lib.hid (has_past HN.out h1 (by omega))
      go_wp2
      go_ret
      exact ⟨ret_bool HE.out.symm, rfl⟩

set_option maxHeartbeats 2000000 in
theorem S_FindLines (A : Option Addr) (n c : Nat) (l : List ByteArray) (t : ByteArray) (w : World) (hr : Rd strE w A n l) (hn : n ≤ 1048576) (hg : ∀ x ∈ l, x.size ≤ maxLen) (hsum : sumS l ≤ 1048576) (ht : t.size ≤ 1048576) :
    Calls Try.prog 16 #[.slice A n c, .string t] w (RetLC intE 2 (findLn l t) (findCode l t) w) := by
  obtain ⟨i0, hi, hz0, hz1, hz2⟩ := info_parts Try.info_i64
  have HZ := Lib.hid (And.intro hz0 hz1); clear hz0 hz1
  have Hl := Lib.hid hr.1
  go_enter Try.func16, Try.ntmps16
  go_wp2_with fail
  refine (s_l30Ok A n c l _ hr (by unfold maxLen; omega) hg).mono ?_
  rintro e w1 ⟨rfl, hE⟩
  have hb1 : Below w.heap.size w w1 := hE ▸ Below.refl _ _
  clear hE
  rcases hB : repB l with _ | _
  · have E1 : Hid (findLn l t = []) := Lib.hid (by unfold findLn; rw [hB]; rfl)
    have E2 : Hid (findCode l t = 1) := Lib.hid (by unfold findCode; rw [hB]; rfl)
    clear hB
    go_wp2
    go_ret2
    exact RetLC.nil E1.out E2.out hb1
  · rcases ht0 : (t.toList == []) with _ | _
    · have E1 : Hid (findLn l t = placesB (hasB · t) l 0) := Lib.hid (by unfold findLn; rw [hB, ht0]; rfl)
      have E2 : Hid (findCode l t = 0) := Lib.hid (by unfold findCode; rw [hB, ht0]; rfl)
      have hn2 := rep_le hB
      rw [Hl.out] at hn2
      have HS := Lib.hid (rep_size hB)
      have ht1 := size_pos_of ht0
      clear hB
      have hz1 := hb1.size
      have hgl0 : GL intE 2 w.heap.size (w1.alloc (.cells #[] 2)) (.slice (some ⟨w1.heap.size, 0, none⟩) 0 0) [] := GL.mk0 hz1
      have hb0 : Below w.heap.size w (w1.alloc (.cells #[] 2)) := hb1.alloc hz1 _
      go_wp2
      go_loopw [6, 7] (fun v i wr => ∃ (k z : Nat) (r : List Int) (A' : Option Addr) (c' : Nat), k ≤ n ∧ i = .int .i64 k ∧ v = .slice A' z c' ∧ GL intE 2 w.heap.size wr (.slice A' z c') r ∧ z ≤ k ∧ Below w.heap.size w wr ∧ Hid (r = placesB (hasB · t) (l.take k) 0)) (fun _ i _ => n - (intOf i).toNat)
      case atStart => exact ⟨0, 0, [], _, _, Nat.zero_le _, rfl, rfl, hgl0, Nat.le_refl _, hb0, Lib.hid rfl⟩
      case round =>
        obtain ⟨k, z, r, A', c', hk, rfl, rfl, hgl, hzk, hb, HR⟩ := hrel
        have hbz := hb.size
        by_cases hlt : k < n
        · obtain ⟨b, off, x, hAe, hx, hcs⟩ := hr.get hlt
          subst hAe
          have hc0 := range_below (B := 0) hcs hb 0 (.string x) rfl
          simp only [strE, Nat.mul_one, Nat.add_zero] at hc0
          have hxs := HS.out x (List.mem_of_getElem? hx)
          have HX := Lib.hid hx
          clear hx hcs
          go_wp2_with fail
          refine (s_l30Has x t _ (by omega) ht ht1).mono ?_
          rintro e w2 ⟨rfl, rfl⟩
          rcases hh : hasB x t with _ | _
          · have HK : Hid (r = placesB (hasB · t) (l.take (k + 1)) 0) := Lib.hid (by rw [places_out HX.out hh]; exact HR.out)
            clear hh
            go_wp2
            first | (refine ⟨⟨k + 1, z, r, A', c', by omega, by go_num, rfl, hgl, by omega, hb, HK⟩, ?_⟩; (simp [intOf]; omega)) | (go_roundw; (case rel => first | exact ⟨k + 1, z, r, A', c', by omega, by go_num, rfl, hgl, by omega, hb, HK⟩ | ((try refine ⟨trivial, ?_⟩); (repeat apply Exists.intro); exact ⟨⟨k + 1, z, r, A', c', by omega, by go_num, rfl, hgl, by omega, hb, HK⟩, rfl⟩)); (case measure => (simp [intOf]; omega)))
          · have HK : Hid (r ++ [(k : Int)] = placesB (hasB · t) (l.take (k + 1)) 0) := Lib.hid (by rw [places_in HX.out hh, HR.out])
            clear hh
            have hlo := hgl.lt
            go_wp2_with (at_builtin; refine wpList_pushO intE rfl _ _ 32 rfl w.heap.size 2 i0 _ 8 Try.underlying32 hi HZ.out.1 HZ.out.2 hz2 rfl A' z c' r (k : Int) rfl (hgl.alloc _) wr.heap.size rfl (range_new _ _ _) (by omega) (by decide) (by simp; omega) ?_; intro A2 c2 w3 hgl3 ht3 _)
            have hb3 := Below.touch (hb.alloc hbz (.cells #[.int .i64 (k : Int)] 2)) ht3 (fun q hq => (hlo q hq).1) (by simp; omega)
            first | (refine ⟨⟨k + 1, z + 1, r ++ [(k : Int)], A2, c2, by omega, by go_num, rfl, hgl3, by omega, hb3, HK⟩, ?_⟩; (simp [intOf]; omega)) | (go_roundw; (case rel => first | exact ⟨k + 1, z + 1, r ++ [(k : Int)], A2, c2, by omega, by go_num, rfl, hgl3, by omega, hb3, HK⟩ | ((try refine ⟨trivial, ?_⟩); (repeat apply Exists.intro); exact ⟨⟨k + 1, z + 1, r ++ [(k : Int)], A2, c2, by omega, by go_num, rfl, hgl3, by omega, hb3, HK⟩, rfl⟩)); (case measure => (simp [intOf]; omega)))
        · obtain rfl : k = n := by omega
          have F1 : Hid (findLn l t = r) := Lib.hid (by rw [E1.out, HR.out, List.take_of_length_le (by have := Hl.out; omega)])
          go_wp2
          go_ret2
          exact RetLC.mk hgl (by omega) F1.out E2.out hb
    · have E1 : Hid (findLn l t = []) := Lib.hid (by unfold findLn; rw [hB, ht0]; rfl)
      have E2 : Hid (findCode l t = 2) := Lib.hid (by unfold findCode; rw [hB, ht0]; rfl)
      clear hB
      go_wp2
      go_ret2
      exact RetLC.nil E1.out E2.out hb1

set_option maxHeartbeats 2000000 in
theorem I_FindLines (A : Option Addr) (n c : Nat) (l : List ByteArray) (t : ByteArray) (w : World) (hr : Rd strE w A n l) (hn : n ≤ 1048576) (hg : ∀ x ∈ l, x.size ≤ maxLen) (hsum : sumS l ≤ 1048576) (ht : t.size ≤ 1048576) (hL : LibW w) :
    Calls Try.prog 17 #[.slice A n c, .string t] w (RetLC intE 2 (findLn l t) (findCode l t) w) := by
  obtain ⟨i0, hi, hz0, hz1, hz2⟩ := info_parts Try.info_i64
  have HZ := Lib.hid (And.intro hz0 hz1); clear hz0 hz1
  have Hl := Lib.hid hr.1
  go_enter Try.func17, Try.ntmps17
  go_wp2_with fail
  refine (i_ValidReport A n c l _ hr (by unfold maxLen; omega) hg).mono ?_
  rintro e w1 ⟨rfl, hE⟩
  have hb1 : Below w.heap.size w w1 := hE ▸ Below.refl _ _
  clear hE
  rcases hB : repB l with _ | _
  · have E1 : Hid (findLn l t = []) := Lib.hid (by unfold findLn; rw [hB]; rfl)
    have E2 : Hid (findCode l t = 1) := Lib.hid (by unfold findCode; rw [hB]; rfl)
    clear hB
    go_wp2
    go_ret2
    exact RetLC.nil E1.out E2.out hb1
  · rcases ht0 : (t.toList == []) with _ | _
    · have E1 : Hid (findLn l t = placesB (hasB · t) l 0) := Lib.hid (by unfold findLn; rw [hB, ht0]; rfl)
      have E2 : Hid (findCode l t = 0) := Lib.hid (by unfold findCode; rw [hB, ht0]; rfl)
      have hn2 := rep_le hB
      rw [Hl.out] at hn2
      have HS := Lib.hid (rep_size hB)
      have ht1 := size_pos_of ht0
      clear hB
      have hz1 := hb1.size
      have hgl0 : GL intE 2 w.heap.size (w1.alloc (.cells #[] 2)) (.slice (some ⟨w1.heap.size, 0, none⟩) 0 0) [] := GL.mk0 hz1
      have hb0 : Below w.heap.size w (w1.alloc (.cells #[] 2)) := hb1.alloc hz1 _
      go_wp2
      go_loopw [6, 17] (fun v i wr => ∃ (k z : Nat) (r : List Int) (A' : Option Addr) (c' : Nat), k ≤ n ∧ i = .int .i64 k ∧ v = .slice A' z c' ∧ GL intE 2 w.heap.size wr (.slice A' z c') r ∧ z ≤ k ∧ Below w.heap.size w wr ∧ Hid (r = placesB (hasB · t) (l.take k) 0)) (fun _ i _ => n - (intOf i).toNat)
      case atStart => exact ⟨0, 0, [], _, _, Nat.zero_le _, rfl, rfl, hgl0, Nat.le_refl _, hb0, Lib.hid rfl⟩
      case round =>
        obtain ⟨k, z, r, A', c', hk, rfl, rfl, hgl, hzk, hb, HR⟩ := hrel
        have hbz := hb.size
        by_cases hlt : k < n
        · obtain ⟨b, off, x, hAe, hx, hcs⟩ := hr.get hlt
          subst hAe
          have hc0 := range_below (B := 0) hcs hb 0 (.string x) rfl
          simp only [strE, Nat.mul_one, Nat.add_zero] at hc0
          have hxs := HS.out x (List.mem_of_getElem? hx)
          have HX := Lib.hid hx
          clear hx hcs
          go_wp2_with fail
          obtain ⟨mx, hmx⟩ := (hL.below hb).max
          refine (Try.strings_Contains x t mx _ (by omega) hmx).mono ?_
          rintro e w2 ⟨rfl, rfl⟩
          rw [show Lib.contains x.data.toList t.data.toList = hasB x t from rfl]
          clear hmx
          rcases hh : hasB x t with _ | _
          · have HK : Hid (r = placesB (hasB · t) (l.take (k + 1)) 0) := Lib.hid (by rw [places_out HX.out hh]; exact HR.out)
            clear hh
            go_wp2
            first | (refine ⟨⟨k + 1, z, r, A', c', by omega, by go_num, rfl, hgl, by omega, hb, HK⟩, ?_⟩; (simp [intOf]; omega)) | (go_roundw; (case rel => first | exact ⟨k + 1, z, r, A', c', by omega, by go_num, rfl, hgl, by omega, hb, HK⟩ | ((try refine ⟨trivial, ?_⟩); (repeat apply Exists.intro); exact ⟨⟨k + 1, z, r, A', c', by omega, by go_num, rfl, hgl, by omega, hb, HK⟩, rfl⟩)); (case measure => (simp [intOf]; omega)))
          · have HK : Hid (r ++ [(k : Int)] = placesB (hasB · t) (l.take (k + 1)) 0) := Lib.hid (by rw [places_in HX.out hh, HR.out])
            clear hh
            have hlo := hgl.lt
            go_wp2_with (at_builtin; refine wpList_pushO intE rfl _ _ 32 rfl w.heap.size 2 i0 _ 8 Try.underlying32 hi HZ.out.1 HZ.out.2 hz2 rfl A' z c' r (k : Int) rfl (hgl.alloc _) w2.heap.size rfl (range_new _ _ _) (by omega) (by decide) (by simp; omega) ?_; intro A2 c2 w3 hgl3 ht3 _)
            have hb3 := Below.touch (hb.alloc hbz (.cells #[.int .i64 (k : Int)] 2)) ht3 (fun q hq => (hlo q hq).1) (by simp; omega)
            first | (refine ⟨⟨k + 1, z + 1, r ++ [(k : Int)], A2, c2, by omega, by go_num, rfl, hgl3, by omega, hb3, HK⟩, ?_⟩; (simp [intOf]; omega)) | (go_roundw; (case rel => first | exact ⟨k + 1, z + 1, r ++ [(k : Int)], A2, c2, by omega, by go_num, rfl, hgl3, by omega, hb3, HK⟩ | ((try refine ⟨trivial, ?_⟩); (repeat apply Exists.intro); exact ⟨⟨k + 1, z + 1, r ++ [(k : Int)], A2, c2, by omega, by go_num, rfl, hgl3, by omega, hb3, HK⟩, rfl⟩)); (case measure => (simp [intOf]; omega)))
        · obtain rfl : k = n := by omega
          have F1 : Hid (findLn l t = r) := Lib.hid (by rw [E1.out, HR.out, List.take_of_length_le (by have := Hl.out; omega)])
          go_wp2
          go_ret2
          exact RetLC.mk hgl (by omega) F1.out E2.out hb
    · have E1 : Hid (findLn l t = []) := Lib.hid (by unfold findLn; rw [hB, ht0]; rfl)
      have E2 : Hid (findCode l t = 2) := Lib.hid (by unfold findCode; rw [hB, ht0]; rfl)
      clear hB
      go_wp2
      go_ret2
      exact RetLC.nil E1.out E2.out hb1

end Go.Proofs.Ytbblkmnafdmcdaa

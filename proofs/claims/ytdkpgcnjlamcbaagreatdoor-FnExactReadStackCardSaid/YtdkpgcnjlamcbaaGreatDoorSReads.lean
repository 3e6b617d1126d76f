/- The reference's reading: a text cut at a byte, a number, a list of numbers. -/
import Derived.Test.YtdkpgcnjlamcbaaGreatDoorRows
import Derived.Test.YtdkpgcnjlamcbaaGreatDoorNames
import Derived.Test.YtdkpgcnjlamcbaaGreatDoorGrow
import Derived.Test.YtdkpgcnjlamcbaaGreatDoorArr
import Derived.Test.YtdkpgcnjlamcbaaGreatDoorNums
namespace Go.Proofs.YtdkpgcnjlamcbaaGreatDoor
set_option linter.unusedVariables false
set_option linter.unusedSimpArgs false
set_option linter.unusedSectionVars false
open Go.RowKit

theorem data_ext {s : ByteArray} {a b : Nat} (h : b ≤ s.size) : (s.extract a b).data.toList = (s.data.toList.drop a).take (b - a) := by
  rw [Lib.extract_data]
theorem u8_eq {a b : UInt8} (h : a = b) : ((a.toNat : Int) == (b.toNat : Int)) = true := by rw [h]; simp
theorem u8_ne {a b : UInt8} (h : a ≠ b) : ((a.toNat : Int) == (b.toNat : Int)) = false := by
  rw [beq_eq_false_iff_ne]
  intro e
  exact h (UInt8.toNat_inj.1 (by omega))

set_option maxHeartbeats 1000000 in
theorem s_l01Split (s : ByteArray) (c : UInt8) (w : World) (hs : s.size ≤ 1048576) :
    Calls Tryz.prog 12 #[.string s, .int .u8 c.toNat] w (RetL strE 9 (cutsB c s) w) := by
  obtain ⟨i0, hi, hz0, hz1, hz2⟩ := info_parts Tryz.info_str
  have hb0 : Below w.heap.size w (w.alloc (.cells #[] 9)) := by (repeat (first | exact Below.refl _ _ | assumption | refine Below.drew ?_ | refine Below.alloc ?_ (by first | omega | (simp; done) | (simp; omega) | exact Below.size (by assumption)) _ | refine Below.setCell ?_ (by first | omega | (simp; done) | (simp; omega)) _))
  have hgl0 : GL strE 9 w.heap.size (w.alloc (.cells #[] 9)) (.slice (some ⟨w.heap.size, 0, none⟩) 0 0) [] := GL.mk0 (Nat.le_refl _)
  go_enter Tryz.func12, Tryz.ntmps12
  go_wp2_with fail
  go_loopw [5, 6, 7] (fun v f i wr => ∃ (k a : Nat) (r : List ByteArray) (A' : Option Addr) (c' : Nat), a ≤ k ∧ k ≤ s.size ∧ i = .int .i64 k ∧ f = .int .i64 a ∧ v = .slice A' r.length c' ∧ GL strE 9 w.heap.size wr (.slice A' r.length c') r ∧ r.length ≤ k ∧ Below w.heap.size w wr ∧ Hid (cutsL c s.data.toList = r.map (·.data.toList) ++ preH ((s.data.toList.drop a).take (k - a)) (cutsL c (s.data.toList.drop k)))) (fun _ _ i _ => s.size - (intOf i).toNat)
  case atStart => exact ⟨0, 0, [], _, _, Nat.le_refl _, Nat.zero_le _, rfl, rfl, rfl, hgl0, Nat.le_refl _, hb0, Lib.hid (by simp [preH_nil (cutsL_ne _ _)])⟩
  case round =>
    obtain ⟨k, a, r, A', c', hak, hk, rfl, rfl, rfl, hgl, hrk, hb, HH⟩ := hrel
    have hbs := hb.size
    by_cases hlt : k < s.size
    · have HB := Lib.hid (byte_at s k hlt)
      by_cases hc : s[k] = c
      · have ht := u8_eq hc
        have HC := Lib.hid hc
        have HK : Hid (cutsL c s.data.toList = (r ++ [s.extract a k]).map (·.data.toList) ++ preH ((s.data.toList.drop (k + 1)).take (k + 1 - (k + 1))) (cutsL c (s.data.toList.drop (k + 1)))) := Lib.hid (by
          have h1 := cuts_hit (by rw [← HC.out]; exact HB.out) HH.out
          rw [List.map_append, List.map_cons, List.map_nil, data_ext (by omega), Nat.sub_self, List.take_zero]
          exact h1)
        clear hc
        go_wp2_with (at_builtin; refine wpList_push strE rfl _ _ 28 rfl w.heap.size 9 i0 _ 16 Tryz.underlying28 hi hz0 hz1 hz2 rfl (.slice A' r.length c') r (s.extract a k) rfl (hgl.alloc _) wr.heap.size rfl (range_new _ _ _) (by omega) (by decide) w (by (repeat (first | exact Below.refl _ _ | assumption | refine Below.drew ?_ | refine Below.alloc ?_ (by first | omega | (simp; done) | (simp; omega) | exact Below.size (by assumption)) _ | refine Below.setCell ?_ (by first | omega | (simp; done) | (simp; omega)) _))) (by simp; omega) ?_; intro A2 c2 w2 hgl2 hb2 _)
        first | (refine ⟨⟨k + 1, k + 1, r ++ [s.extract a k], A2, c2, Nat.le_refl _, by omega, by go_num, by go_num, by simp, by simpa using hgl2, by simp; omega, hb2, HK⟩, ?_⟩; (simp [intOf]; omega)) | (go_roundw; (case rel => first | exact ⟨k + 1, k + 1, r ++ [s.extract a k], A2, c2, Nat.le_refl _, by omega, by go_num, by go_num, by simp, by simpa using hgl2, by simp; omega, hb2, HK⟩ | ((try refine ⟨trivial, ?_⟩); (repeat apply Exists.intro); exact ⟨⟨k + 1, k + 1, r ++ [s.extract a k], A2, c2, Nat.le_refl _, by omega, by go_num, by go_num, by simp, by simpa using hgl2, by simp; omega, hb2, HK⟩, rfl⟩)); (case measure => (simp [intOf]; omega)))
      · have ht := u8_ne hc
        have HC := Lib.hid hc
        have HK : Hid (cutsL c s.data.toList = r.map (·.data.toList) ++ preH ((s.data.toList.drop a).take (k + 1 - a)) (cutsL c (s.data.toList.drop (k + 1)))) := Lib.hid (by
          have h1 := cuts_miss HB.out HC.out HH.out
          have h2 : (s.data.toList.drop a)[k - a]? = some s[k] := by rw [List.getElem?_drop, show a + (k - a) = k by omega]; exact HB.out
          rw [show k + 1 - a = k - a + 1 by omega, take_of_get h2]
          exact h1)
        clear hc
        go_wp2
        first | (refine ⟨⟨k + 1, a, r, A', c', by omega, by omega, by go_num, rfl, rfl, hgl, by omega, hb, HK⟩, ?_⟩; (simp [intOf]; omega)) | (go_roundw; (case rel => first | exact ⟨k + 1, a, r, A', c', by omega, by omega, by go_num, rfl, rfl, hgl, by omega, hb, HK⟩ | ((try refine ⟨trivial, ?_⟩); (repeat apply Exists.intro); exact ⟨⟨k + 1, a, r, A', c', by omega, by omega, by go_num, rfl, rfl, hgl, by omega, hb, HK⟩, rfl⟩)); (case measure => (simp [intOf]; omega)))
    · have E : Hid (cutsB c s = r ++ [s.extract a s.size]) := Lib.hid (by
        unfold cutsB
        have h1 := cuts_end (by simp; omega) HH.out
        apply map_data_inj
        rw [List.map_map, show ((fun b : ByteArray => b.data.toList) ∘ ofL) = id by funext l; exact ofL_data l, List.map_id, h1, List.map_append, List.map_cons, List.map_nil, data_ext (Nat.le_refl _), show k = s.size by omega])
      go_wp2_with (at_builtin; refine wpList_push strE rfl _ _ 28 rfl w.heap.size 9 i0 _ 16 Tryz.underlying28 hi hz0 hz1 hz2 rfl (.slice A' r.length c') r (s.extract a s.size) rfl (hgl.alloc _) wr.heap.size rfl (range_new _ _ _) (by omega) (by decide) w (by (repeat (first | exact Below.refl _ _ | assumption | refine Below.drew ?_ | refine Below.alloc ?_ (by first | omega | (simp; done) | (simp; omega) | exact Below.size (by assumption)) _ | refine Below.setCell ?_ (by first | omega | (simp; done) | (simp; omega)) _))) (by simp; omega) ?_; intro A2 c2 w2 hgl2 hb2 _)
      go_ret
      exact RetL.mk hgl2 (by omega) E.out hb2

end Go.Proofs.YtdkpgcnjlamcbaaGreatDoor

/- Where versions come from, both sides. Printed by a program of mine. -/
import Derived.Test.YtfabijhilfjkcaaRows
import Derived.Test.YtfabijhilfjkcaaCVersion
import Derived.Test.YtfabijhilfjkcaaAncLaw
import Derived.Test.YtfabijhilfjkcaaTwo
namespace Go.Proofs.Ytfabijhilfjkcaa
set_option linter.unusedVariables false
set_option linter.unusedSimpArgs false
set_option linter.unusedSectionVars false
open Go.RowKit
set_option maxRecDepth 100000

theorem Try.info_n64 : (Try.prog.info? 2).map (fun i => (i.zero, i.size, i.bytes)) = some (some (.int .i64 0), 1, 8) := by kernel_rfl
theorem GL.one {base : Nat} {w : World} {et : TypeId} {x : Int} (hb : base ≤ w.heap.size) : GL intE et base (w.alloc (.cells #[.int .i64 x] et)) (.slice (some ⟨w.heap.size, 0, none⟩) 1 1) [x] :=
  World.ownsRow_lit (base := base) (e := et) (size := 1) w #[.int .i64 x] 1 hb (by decide) rfl
def RetAnc (l : List DVersion) (a : Nat) (w : World) (e : Ending) (w' : World) : Prop :=
  ∃ B m c, e = .returned (.slice B m c) ∧ GL intE 2 w.heap.size w' (.slice B m c) (intsN (aboveN (parV l) a)) ∧ m < 32 ∧ Below w.heap.size w w'

theorem s_l27Number (A : Option Addr) (n c : Nat) (a : Int) (w : World) (hn : n ≤ maxLen) :
    Calls Try.prog 14 #[.slice A n c, .int .i64 a] w fun e w' => e = .returned (.bool (inB a 1 n)) ∧ w = w' := by
  unfold maxLen at hn
  go_enter Try.func14, Try.ntmps14
  go_wp2_with fail
  refine (s_l00In _ _ _ _).mono ?_
  rintro e w' ⟨rfl, rfl⟩
  go_wp2
  go_ret
  exact ⟨rfl, rfl⟩

theorem i_isVersion (A : Option Addr) (n c : Nat) (a : Int) (w : World) (hn : n ≤ maxLen) (h0 : -9223372036854775808 ≤ a) (h1 : a ≤ 9223372036854775807) :
    Calls Try.prog 22 #[.slice A n c, .int .i64 a] w fun e w' => e = .returned (.bool (inB a 1 n)) ∧ w = w' := by
  unfold maxLen at hn
  by_cases hm : a = -9223372036854775808
  · subst hm
    have hw : IntKind.i64.wrap (-9223372036854775808 - 1) = 9223372036854775807 := by decide
    have E : Hid (inB (wrap64 (-9223372036854775809)) 0 ((n : Int) - 1) = inB (-9223372036854775808) 1 n) := Lib.hid (by rw [show wrap64 (-9223372036854775809) = 9223372036854775807 by kernel_rfl]; unfold inB; simp; omega)
    go_enter Try.func22, Try.ntmps22
    go_wp2_with fail
    refine (i_at _ _ _ (by omega) (by omega)).mono ?_
    rintro e w' ⟨rfl, rfl⟩
    go_wp2
    go_ret
    exact ⟨ret_bool E.out, rfl⟩
  have E : Hid (inB (a - 1) 0 ((n : Int) - 1) = inB a 1 n) := Lib.hid (by
    unfold inB
    congr 1
    · exact decide_eq_decide.2 (by omega)
    · exact decide_eq_decide.2 (by omega))
  go_enter Try.func22, Try.ntmps22
  go_wp2_with fail
  refine (i_at _ _ _ (by omega) (by omega)).mono ?_
  rintro e w' ⟨rfl, rfl⟩
  go_wp2
  go_ret
  exact ⟨ret_bool E.out, rfl⟩

set_option maxHeartbeats 2000000 in
theorem s_l27Above (A : Option Addr) (n c a : Nat) (l : List DVersion) (w : World) (hr : RdVersion w A n l) (hok : OkHist l) (h1 : 1 ≤ a) (h2 : a ≤ n) (hn : n ≤ 32) :
    Calls Try.prog 37 #[.slice A n c, .int .i64 a] w (RetAnc l a w) := by
  obtain ⟨j0, gi, gz0, gz1, gz2⟩ := info_parts Try.info_n64
  have GZ := Lib.hid (And.intro gz0 gz1); clear gz0 gz1
  have Hl := Lib.hid hr.len
  have HK := Lib.hid hok; clear hok
  have HG0 : Hid (GL intE 2 w.heap.size (w.alloc (.cells #[] 2)) (.slice (some ⟨w.heap.size, 0, none⟩) 0 0) (intsN [])) := Lib.hid (GL.mk0 (Nat.le_refl _))
  have hb0 : Below w.heap.size w (w.alloc (.cells #[] 2)) := (Below.refl _ _).alloc (Nat.le_refl _) _
  go_enter Try.func37, Try.ntmps37
  go_wp2_with fail
  go_loopw [1, 5] (fun v t wr => ∃ (q : Nat) (o : List Nat) (B : Option Addr) (z c2 : Nat), q ≤ n ∧ v = .int .i64 q ∧ t = .slice B z c2 ∧ Hid (GL intE 2 w.heap.size wr (.slice B z c2) (intsN o)) ∧ Hid (Climb l a o (restV l q)) ∧ Below w.heap.size w wr) (fun v _ _ => (intOf v).toNat)
  case atStart => exact ⟨a, [], _, 0, 0, h2, rfl, rfl, HG0, Lib.hid ⟨by rw [rest_pos l h1]; rfl⟩, hb0⟩
  case round =>
    obtain ⟨q, o, B, z, c2, hq, rfl, rfl, HGL, HC, hb⟩ := hrel
    clear HG0 hb0
    have hz := HC.out.few HK.out h1 (by rw [Hl.out]; exact h2) HGL.out.len
    have hbs := hb.size
    rcases q with _ | m
    · have E : Hid (o = aboveN (parV l) a) := Lib.hid HC.out.done
      go_wp2
      go_ret
      exact ⟨B, z, c2, rfl, by rw [← E.out]; exact HGL.out, hz, hb⟩
    · obtain ⟨b, off, x, A', n', c', rfl, hx, hcs, _⟩ := hr.get (k := m) (by omega)
      have hc1 := range_below (B := 0) hcs hb 1 _ rfl
      obtain ⟨p, hp, hpm, hup⟩ := up_of HK.out hx
      have HU : Hid (Climb l a o (upV l p)) := Lib.hid ⟨by rw [HC.out.eq, rest_pos l (by omega), hup]⟩
      have hne : (((m + 1 : Nat) : Int) != 0) = true := by rw [bne_iff_ne]; omega
      rw [hp] at hc1
      clear hcs hx hp hup HC
      rcases p with _ | p
      · have HN : Hid (Climb l a o (restV l 0)) := Lib.hid ⟨HU.out.eq⟩
        go_wp2
        first | (refine ⟨⟨0, o, B, z, c2, by omega, by go_num, rfl, HGL, HN, hb⟩, ?_⟩; (first | (simp [intOf]; done) | (simp [intOf]; omega))) | (go_roundw; (case rel => first | exact ⟨0, o, B, z, c2, by omega, by go_num, rfl, HGL, HN, hb⟩ | ((try refine ⟨trivial, ?_⟩); (repeat apply Exists.intro); exact ⟨⟨0, o, B, z, c2, by omega, by go_num, rfl, HGL, HN, hb⟩, rfl⟩)); (case measure => (first | (simp [intOf]; done) | (simp [intOf]; omega))))
      · have hne2 : (((p + 1 : Nat) : Int) != 0) = true := by rw [bne_iff_ne]; omega
        have HN : Hid (Climb l a (o ++ [p + 1]) (restV l (p + 1))) := Lib.hid (by
          have h3 := HU.out
          rw [up_pos l (by omega)] at h3
          rw [rest_pos l (by omega)]
          exact h3.push)
        have hgl := HGL.out
        clear HU HGL
        go_wp2_with (at_builtin; refine wpList_pushO intE rfl _ _ 58 rfl w.heap.size 2 j0 _ 8 Try.underlying58 gi GZ.out.1 GZ.out.2 gz2 rfl B z c2 (intsN o) (((p + 1 : Nat) : Int) : Int) rfl (hgl.alloc _) wr.heap.size rfl (range_new _ _ _) (by omega) (by decide) (Nat.le_trans hbs (by simp)) ?_; intro B2 c3 w2 hgl2 ht2 hn2)
        have hb2 := Below.touch (hb.alloc hbs (.cells #[.int .i64 ((p + 1 : Nat) : Int)] 2)) ht2 (fun k hk => (hgl.lt k hk).1) (Nat.le_trans hbs (by simp))
        have HG2 : Hid (GL intE 2 w.heap.size w2 (.slice B2 (z + 1) c3) (intsN (o ++ [p + 1]))) := Lib.hid (by rw [intsN_app]; exact hgl2)
        clear hgl hgl2 ht2 hn2 hc1
        go_wp2
        first | (refine ⟨⟨p + 1, o ++ [p + 1], B2, z + 1, c3, by omega, by go_num, rfl, HG2, HN, hb2⟩, ?_⟩; (simp [intOf]; omega)) | (go_roundw; (case rel => first | exact ⟨p + 1, o ++ [p + 1], B2, z + 1, c3, by omega, by go_num, rfl, HG2, HN, hb2⟩ | ((try refine ⟨trivial, ?_⟩); (repeat apply Exists.intro); exact ⟨⟨p + 1, o ++ [p + 1], B2, z + 1, c3, by omega, by go_num, rfl, HG2, HN, hb2⟩, rfl⟩)); (case measure => (simp [intOf]; omega)))

set_option maxHeartbeats 2000000 in
theorem i_ancestors (A : Option Addr) (n c a : Nat) (l : List DVersion) (w : World) (hr : RdVersion w A n l) (hok : OkHist l) (h1 : 1 ≤ a) (h2 : a ≤ n) (hn : n ≤ 32) :
    Calls Try.prog 48 #[.slice A n c, .int .i64 a] w (RetAnc l a w) := by
  obtain ⟨j0, gi, gz0, gz1, gz2⟩ := info_parts Try.info_n64
  have GZ := Lib.hid (And.intro gz0 gz1); clear gz0 gz1
  have Hl := Lib.hid hr.len
  have HK := Lib.hid hok; clear hok
  have HG0 : Hid (GL intE 2 w.heap.size (w.alloc (.cells #[] 2)) (.slice (some ⟨w.heap.size, 0, none⟩) 0 0) (intsN [])) := Lib.hid (GL.mk0 (Nat.le_refl _))
  have hb0 : Below w.heap.size w (w.alloc (.cells #[] 2)) := (Below.refl _ _).alloc (Nat.le_refl _) _
  obtain ⟨m, rfl⟩ : ∃ m, a = m + 1 := ⟨a - 1, by omega⟩
  obtain ⟨b, off, x, A', n', c', rfl, hx, hcs, _⟩ := hr.get (k := m) (by omega)
  have hc1 := range_below (B := 0) hcs hb0 1 _ rfl
  obtain ⟨p, hp, hpm, hup⟩ := up_of HK.out hx
  have HU : Hid (Climb l (m + 1) [] (upV l p)) := Lib.hid ⟨by rw [hup]; rfl⟩
  rw [hp] at hc1
  clear hcs hx hp hup
  go_enter Try.func48, Try.ntmps48
  go_wp2_with fail
  go_loopw [5, 6] (fun t v wr => ∃ (q : Nat) (o : List Nat) (B : Option Addr) (z c2 : Nat), q ≤ n ∧ v = .int .i64 q ∧ t = .slice B z c2 ∧ Hid (GL intE 2 w.heap.size wr (.slice B z c2) (intsN o)) ∧ Hid (Climb l (m + 1) o (upV l q)) ∧ Below w.heap.size w wr) (fun _ v _ => (intOf v).toNat)
  case atStart => exact ⟨p, [], _, 0, 0, by omega, rfl, rfl, HG0, HU, hb0⟩
  case round =>
    clear HG0 hb0 HU hc1
    obtain ⟨q, o, B, z, c2, hq, rfl, rfl, HGL, HC, hb⟩ := hrel
    have hz := HC.out.few HK.out h1 (by rw [Hl.out]; exact h2) HGL.out.len
    have hbs := hb.size
    rcases q with _ | q
    · have E : Hid (o = aboveN (parV l) (m + 1)) := Lib.hid HC.out.done
      go_wp2
      go_ret
      exact ⟨B, z, c2, rfl, by rw [← E.out]; exact HGL.out, hz, hb⟩
    · obtain ⟨b', off', x, A', n', c', hA', hx, hcs, _⟩ := hr.get (k := q) (by omega)
      cases hA'
      obtain ⟨p, hp, hpm, hup⟩ := up_of HK.out hx
      have HN : Hid (Climb l (m + 1) (o ++ [q + 1]) (upV l p)) := Lib.hid (by
        have h3 := HC.out
        rw [up_pos l (by omega), hup] at h3
        exact h3.push)
      have hgt : decide ((0 : Int) < ((q + 1 : Nat) : Int)) = true := decide_eq_true (by omega)
      have hgl := HGL.out
      have HCS := Lib.hid hcs
      have HP := Lib.hid hp
      clear hx hup HC HGL hcs hp
      go_wp2_with (at_builtin; refine wpList_pushO intE rfl _ _ 58 rfl w.heap.size 2 j0 _ 8 Try.underlying58 gi GZ.out.1 GZ.out.2 gz2 rfl B z c2 (intsN o) (((q + 1 : Nat) : Int) : Int) rfl (hgl.alloc _) wr.heap.size rfl (range_new _ _ _) (by omega) (by decide) (Nat.le_trans hbs (by simp)) ?_; intro B2 c3 w2 hgl2 ht2 hn2; have hb2 := Below.touch (hb.alloc hbs (.cells #[.int .i64 ((q + 1 : Nat) : Int)] 2)) ht2 (fun k hk => (hgl.lt k hk).1) (Nat.le_trans hbs (by simp)); have hc1 := range_below (B := 0) HCS.out hb2 1 _ rfl; rw [HP.out] at hc1)
      have HG2 : Hid (GL intE 2 w.heap.size w2 (.slice B2 (z + 1) c3) (intsN (o ++ [q + 1]))) := Lib.hid (by rw [intsN_app]; exact hgl2)
      clear hgl hgl2 ht2 hn2
      go_wp2
      first | (refine ⟨⟨p, o ++ [q + 1], B2, z + 1, c3, by omega, by go_num, rfl, HG2, HN, hb2⟩, ?_⟩; (simp [intOf]; omega)) | (go_roundw; (case rel => first | exact ⟨p, o ++ [q + 1], B2, z + 1, c3, by omega, by go_num, rfl, HG2, HN, hb2⟩ | ((try refine ⟨trivial, ?_⟩); (repeat apply Exists.intro); exact ⟨⟨p, o ++ [q + 1], B2, z + 1, c3, by omega, by go_num, rfl, HG2, HN, hb2⟩, rfl⟩)); (case measure => (simp [intOf]; omega)))

end Go.Proofs.Ytfabijhilfjkcaa

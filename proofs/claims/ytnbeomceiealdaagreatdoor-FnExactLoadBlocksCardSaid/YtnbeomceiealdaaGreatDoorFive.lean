/- A number in five places: both sides. -/
import Derived.Test.YtnbeomceiealdaaGreatDoorRows
import Derived.Test.YtnbeomceiealdaaGreatDoorDec
import Derived.Test.YtnbeomceiealdaaGreatDoorCrc
import Derived.Test.YtnbeomceiealdaaGreatDoorArcLaw
import Derived.Test.YtnbeomceiealdaaGreatDoorIReads
import Derived.Test.YtnbeomceiealdaaGreatDoorShelf
namespace Go.Proofs.YtnbeomceiealdaaGreatDoor
set_option linter.unusedVariables false
set_option linter.unusedSimpArgs false
set_option linter.unusedSectionVars false
open Go.RowKit

set_option maxHeartbeats 1000000 in
theorem s_l29Five (n : Nat) (w : World) (hn : n < 100000) :
    Calls Tryz.prog 23 #[.int .i64 n] w fun e w' => e = .returned (.string (ofL (fiveL n))) ∧ Below w.heap.size w w' := by
  have hlen := nDigits_le hn
  obtain ⟨L, hL⟩ : ∃ L, Lib.itoa (n : Int) = L := ⟨_, rfl⟩
  have hd := s_l01Dec n w (by omega)
  have HF : Hid (fiveL n = List.replicate (5 - L.length) 48 ++ L) := Lib.hid (by unfold fiveL; rw [hL])
  rw [hL] at hlen hd
  clear hL
  go_enter Tryz.func23, Tryz.ntmps23
  go_wp2_with fail
  refine hd.mono ?_
  rintro e w1 ⟨rfl, hb⟩
  clear hd
  go_wp2
  go_loop [3] (fun s => ∃ (k : Nat) (T : ByteArray), k + L.length ≤ 5 ∧ s = .string T ∧ T.size = k + L.length ∧ Hid (T = ofL (List.replicate k 48 ++ L))) (fun s => match s with | .string T => 5 - T.size | _ => 0)
  case atStart => exact ⟨0, ofL L, by omega, rfl, by rw [ofL_size]; omega, Lib.hid (by simp)⟩
  case round =>
    obtain ⟨k, T, hk, rfl, hT, HT⟩ := hrel
    by_cases hlt : k + L.length < 5
    · have HN : Hid ((⟨#[48]⟩ : ByteArray) ++ T = ofL (List.replicate (k + 1) 48 ++ L)) := Lib.hid (eq_ofL (by rw [bl_app, HT.out]; show [48] ++ bl (ofL _) = _; rw [bl_ofL]; simp [List.replicate_succ]))
      have HS : Hid (((⟨#[48]⟩ : ByteArray) ++ T).size = k + 1 + L.length) := Lib.hid (by rw [ba_app_size, hT]; show 1 + (k + L.length) = _; omega)
      have hsz : ((T.size : Nat) : Int) < 5 := by omega
      have HTs := Lib.hid hT
      clear hT
      go_wp2
      first | (refine ⟨⟨k + 1, _, by omega, rfl, HS.out, HN⟩, ?_⟩; (show 5 - ((⟨#[48]⟩ : ByteArray) ++ T).size < 5 - T.size; rw [HS.out, HTs.out]; omega)) | (go_round; (case rel => first | exact ⟨k + 1, _, by omega, rfl, HS.out, HN⟩ | ((try refine ⟨trivial, ?_⟩); (repeat apply Exists.intro); exact ⟨⟨k + 1, _, by omega, rfl, HS.out, HN⟩, rfl⟩)); (case measure => (show 5 - ((⟨#[48]⟩ : ByteArray) ++ T).size < 5 - T.size; rw [HS.out, HTs.out]; omega)))
    · have hsz : ¬ ((T.size : Nat) : Int) < 5 := by omega
      clear hT
      go_wp2
      go_ret
      refine ⟨?_, hb⟩
      rw [HT.out, HF.out, show k = 5 - L.length by omega]
      rfl
set_option maxHeartbeats 1000000 in
theorem i_padded (n : Nat) (w : World) (hn : n < 100000) (hL : LibW w) :
    Calls Tryz.prog 46 #[.int .i64 n, .int .i64 5] w fun e w' => e = .returned (.string (ofL (fiveL n))) ∧ Below w.heap.size w w' := by
  have hlen := nDigits_le hn
  have hd := i_Decimal n w (by omega) hL
  obtain ⟨L, hLL⟩ : ∃ L, Lib.itoa (n : Int) = L := ⟨_, rfl⟩
  have HF : Hid (fiveL n = List.replicate (5 - L.length) 48 ++ L) := Lib.hid (by unfold fiveL; rw [hLL])
  rw [hLL] at hlen hd
  clear hLL
  have hT := ofL_size L
  obtain ⟨T, hTT⟩ : ∃ T, ofL L = T := ⟨_, rfl⟩
  rw [hTT] at hT hd
  have HTT := Lib.hid hTT
  clear hTT
  obtain ⟨k, hk⟩ : ∃ k, 5 - L.length = k := ⟨_, rfl⟩
  have hk5 : k ≤ 5 := by omega
  have hmax : (if (0 : Int) ≤ 5 - (T.size : Int) then 5 - (T.size : Int) else 0) = k := by rw [hT, if_pos (by omega)]; omega
  have hmax2 : max (0 : Int) (5 - (T.size : Int)) = k := by rw [hT]; omega
  have hrep := fun W => Tryz.strings_Repeat ⟨#[48]⟩ k W (by omega) (by show 1 * k ≤ _; omega)
  have hrz : (⟨(Lib.repeatL [48] k).toArray⟩ : ByteArray) = ofL (List.replicate k 48) := by rw [repeat_rep]; rfl
  simp only [hrz] at hrep
  obtain ⟨Z, hZ⟩ : ∃ Z, ofL (List.replicate k 48) = Z := ⟨_, rfl⟩
  have hZs : Z.size = k := by rw [← hZ, ofL_size, List.length_replicate]
  have HR : Hid (ofL (fiveL n) = Z ++ T) := Lib.hid (by rw [HF.out, hk, ← hZ, ← HTT.out, ofL_app])
  simp only [hZ] at hrep
  have hT5 : T.size ≤ 5 := by omega
  clear hZ hrz hT hk HTT HF hlen
  go_enter Tryz.func46, Tryz.ntmps46
  go_wp2_with fail
  refine hd.mono ?_
  rintro e w1 ⟨rfl, hb⟩
  clear hd
  go_wp2_with fail
  refine (hrep _).mono ?_
  rintro e w2 ⟨rfl, hb2⟩
  go_wp2
  go_ret
  exact ⟨by rw [HR.out]; rfl, hb.trans (hb2.mono hb.size)⟩
end Go.Proofs.YtnbeomceiealdaaGreatDoor

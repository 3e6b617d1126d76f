/- The sum of a text: both sides' walks. -/
import Derived.Test.YtnbeomceiealdaaGreatDoorRows
import Derived.Test.YtnbeomceiealdaaGreatDoorBasic
import Derived.Test.YtnbeomceiealdaaGreatDoorCrcLaw
namespace Go.Proofs.YtnbeomceiealdaaGreatDoor
set_option linter.unusedVariables false
set_option linter.unusedSimpArgs false
set_option linter.unusedSectionVars false
open Go.RowKit

theorem get_byte (s : ByteArray) (k : Nat) (h : k < s.size) : s.data.toList[k]? = some s[k] := by
  rw [List.getElem?_eq_getElem (by simpa using h)]
  rfl
set_option maxHeartbeats 2000000 in
theorem s_l01Crc (s : ByteArray) (n : Nat) (w : World) (hs : s.size ≤ 4194304) (hn : n < 65536) :
    Calls Tryz.prog 24 #[.string s, .int .i64 n] w fun e w' => e = .returned (.int .i64 ((crcL s.data.toList n : Nat) : Int)) ∧ w = w' := by
  go_enter Tryz.func24, Tryz.ntmps24
  go_wp2
  go_loop [1, 5] (fun v i => ∃ k m : Nat, k ≤ s.size ∧ i = .int .i64 k ∧ v = .int .i64 m ∧ m < 65536 ∧ Hid (m = crcL (s.data.toList.take k) n)) (fun _ i => s.size - (intOf i).toNat)
  case atStart => exact ⟨0, n, Nat.zero_le _, rfl, rfl, hn, Lib.hid (by rw [List.take_zero, crcL_nil])⟩
  case round =>
    obtain ⟨k, m, hk, rfl, rfl, hm, HM⟩ := hrel
    by_cases hlt : k < s.size
    · have hb := s[k].toNat_lt
      have hxl := crcIn_lt hm s[k]
      have hxe : bits BinOp.xor IntKind.i64 (m : Int) ((s[k].toNat : Int) * 256) = ((m ^^^ (s[k].toNat * 256) : Nat) : Int) := by
        rw [show (s[k].toNat : Int) * 256 = ((s[k].toNat * 256 : Nat) : Int) by omega]
        exact i64_xor_nat m (s[k].toNat * 256) (by omega) (by omega)
      have HB := Lib.hid (show crcL (s.data.toList.take (k + 1)) n = crcBits 8 (m ^^^ (s[k].toNat * 256)) by
        rw [List.take_add_one, show s.data.toList[k]? = some s[k] from get_byte s k hlt, HM.out]
        exact crcL_snoc _ _ _)
      obtain ⟨M, hM⟩ : ∃ M, m ^^^ (s[k].toNat * 256) = M := ⟨_, rfl⟩
      rw [hM] at hxe hxl HB
      go_wp2
      try rw [hxe]
      go_loop [1, 6] (fun v j => ∃ q r : Nat, q ≤ 8 ∧ j = .int .i64 q ∧ v = .int .i64 r ∧ r < 65536 ∧ Hid (r = crcBits q M)) (fun _ j => 8 - (intOf j).toNat)
      case atStart => exact ⟨0, M, by omega, rfl, rfl, hxl, Lib.hid rfl⟩
      case round =>
        obtain ⟨q, r, hq, rfl, rfl, hr, HR⟩ := hrel
        by_cases hq8 : q < 8
        · by_cases hbig : 65535 < 2 * r
          · have h1 : bits BinOp.and IntKind.i64 ((r : Int) * 2) 65535 = ((2 * r &&& 65535 : Nat) : Int) := by
              rw [show (r : Int) * 2 = ((2 * r : Nat) : Int) by omega]
              exact i64_and_nat (2 * r) 65535 (by omega) (by decide)
            obtain ⟨a, ha⟩ : ∃ a, 2 * r &&& 65535 = a := ⟨_, rfl⟩
            have hal : a ≤ 65535 := ha ▸ Nat.and_le_right
            have h2 : bits BinOp.xor IntKind.i64 (a : Int) 4129 = ((a ^^^ 4129 : Nat) : Int) := i64_xor_nat a 4129 (by omega) (by decide)
            have h3 : a ^^^ 4129 < 65536 := Nat.xor_lt_two_pow (n := 16) (by omega) (by decide)
            have HC : Hid (a ^^^ 4129 = crcBits (q + 1) M) := Lib.hid (by rw [crcBits, ← HR.out, crcBit, if_pos hbig, ha])
            rw [ha] at h1
            go_wp2
            first | (refine ⟨⟨q + 1, a ^^^ 4129, by omega, by go_num, by first | rfl | (rw [h1, h2]), h3, HC⟩, ?_⟩; (simp [intOf]; omega)) | (go_round; (case rel => first | exact ⟨q + 1, a ^^^ 4129, by omega, by go_num, by first | rfl | (rw [h1, h2]), h3, HC⟩ | ((try refine ⟨trivial, ?_⟩); (repeat apply Exists.intro); exact ⟨⟨q + 1, a ^^^ 4129, by omega, by go_num, by first | rfl | (rw [h1, h2]), h3, HC⟩, rfl⟩)); (case measure => (simp [intOf]; omega)))
          · have HC : Hid (2 * r = crcBits (q + 1) M) := Lib.hid (by rw [crcBits, ← HR.out, crcBit, if_neg hbig])
            go_wp2
            first | (refine ⟨⟨q + 1, 2 * r, by omega, by go_num, by go_num, by omega, HC⟩, ?_⟩; (simp [intOf]; omega)) | (go_round; (case rel => first | exact ⟨q + 1, 2 * r, by omega, by go_num, by go_num, by omega, HC⟩ | ((try refine ⟨trivial, ?_⟩); (repeat apply Exists.intro); exact ⟨⟨q + 1, 2 * r, by omega, by go_num, by go_num, by omega, HC⟩, rfl⟩)); (case measure => (simp [intOf]; omega)))
        · obtain rfl : q = 8 := by omega
          go_wp2
          first | (refine ⟨⟨k + 1, r, by omega, by go_num, rfl, hr, Lib.hid (by rw [HB.out, HR.out])⟩, ?_⟩; (simp [intOf]; omega)) | (go_round; (case rel => first | exact ⟨k + 1, r, by omega, by go_num, rfl, hr, Lib.hid (by rw [HB.out, HR.out])⟩ | ((try refine ⟨trivial, ?_⟩); (repeat apply Exists.intro); exact ⟨⟨k + 1, r, by omega, by go_num, rfl, hr, Lib.hid (by rw [HB.out, HR.out])⟩, rfl⟩)); (case measure => (simp [intOf]; omega)))
    · go_wp2
      go_ret
      exact ⟨by rw [HM.out, List.take_of_length_le (by simp; omega)]; rfl, rfl⟩

set_option maxHeartbeats 2000000 in
theorem i_Crc16 (s : ByteArray) (n : Nat) (w : World) (hs : s.size ≤ 4194304) (hn : n < 65536) :
    Calls Tryz.prog 47 #[.string s, .int .i64 n] w fun e w' => e = .returned (.int .i64 ((crcL s.data.toList n : Nat) : Int)) ∧ w = w' := by
  go_enter Tryz.func47, Tryz.ntmps47
  have hin : inB (n : Int) 0 65535 = true := inB_true (by omega) (by omega)
  go_wp2_with fail
  refine (i_within _ _ _ _).mono ?_
  rintro e w' ⟨rfl, rfl⟩
  rw [hin]
  clear hin
  go_wp2
  go_loop [1, 5] (fun v i => ∃ k m : Nat, k ≤ s.size ∧ i = .int .i64 k ∧ v = .int .i64 m ∧ m < 65536 ∧ Hid (m = crcL (s.data.toList.take k) n)) (fun _ i => s.size - (intOf i).toNat)
  case atStart => exact ⟨0, n, Nat.zero_le _, rfl, rfl, hn, Lib.hid (by rw [List.take_zero, crcL_nil])⟩
  case round =>
    obtain ⟨k, m, hk, rfl, rfl, hm, HM⟩ := hrel
    by_cases hlt : k < s.size
    · have hb := s[k].toNat_lt
      have hxl := crcIn_lt hm s[k]
      have hxe : bits BinOp.xor IntKind.i64 (m : Int) ((s[k].toNat : Int) * 256) = ((m ^^^ (s[k].toNat * 256) : Nat) : Int) := by
        rw [show (s[k].toNat : Int) * 256 = ((s[k].toNat * 256 : Nat) : Int) by omega]
        exact i64_xor_nat m (s[k].toNat * 256) (by omega) (by omega)
      have HB := Lib.hid (show crcL (s.data.toList.take (k + 1)) n = crcBits 8 (m ^^^ (s[k].toNat * 256)) by
        rw [List.take_add_one, show s.data.toList[k]? = some s[k] from get_byte s k hlt, HM.out]
        exact crcL_snoc _ _ _)
      obtain ⟨M, hM⟩ : ∃ M, m ^^^ (s[k].toNat * 256) = M := ⟨_, rfl⟩
      rw [hM] at hxe hxl HB
      go_wp2
      try rw [hxe]
      go_loop [1, 22] (fun v j => ∃ q r : Nat, q ≤ 8 ∧ j = .int .i64 q ∧ v = .int .i64 r ∧ r < 65536 ∧ Hid (r = crcBits q M)) (fun _ j => 8 - (intOf j).toNat)
      case atStart => exact ⟨0, M, by omega, rfl, rfl, hxl, Lib.hid rfl⟩
      case round =>
        obtain ⟨q, r, hq, rfl, rfl, hr, HR⟩ := hrel
        by_cases hq8 : q < 8
        · by_cases hbig : 65535 < 2 * r
          · have h1 : bits BinOp.and IntKind.i64 ((r : Int) * 2) 65535 = ((2 * r &&& 65535 : Nat) : Int) := by
              rw [show (r : Int) * 2 = ((2 * r : Nat) : Int) by omega]
              exact i64_and_nat (2 * r) 65535 (by omega) (by decide)
            obtain ⟨a, ha⟩ : ∃ a, 2 * r &&& 65535 = a := ⟨_, rfl⟩
            have hal : a ≤ 65535 := ha ▸ Nat.and_le_right
            have h2 : bits BinOp.xor IntKind.i64 (a : Int) 4129 = ((a ^^^ 4129 : Nat) : Int) := i64_xor_nat a 4129 (by omega) (by decide)
            have h3 : a ^^^ 4129 < 65536 := Nat.xor_lt_two_pow (n := 16) (by omega) (by decide)
            have HC : Hid (a ^^^ 4129 = crcBits (q + 1) M) := Lib.hid (by rw [crcBits, ← HR.out, crcBit, if_pos hbig, ha])
            rw [ha] at h1
            go_wp2
            first | (refine ⟨⟨q + 1, a ^^^ 4129, by omega, by go_num, by first | rfl | (rw [h1, h2]), h3, HC⟩, ?_⟩; (simp [intOf]; omega)) | (go_round; (case rel => first | exact ⟨q + 1, a ^^^ 4129, by omega, by go_num, by first | rfl | (rw [h1, h2]), h3, HC⟩ | ((try refine ⟨trivial, ?_⟩); (repeat apply Exists.intro); exact ⟨⟨q + 1, a ^^^ 4129, by omega, by go_num, by first | rfl | (rw [h1, h2]), h3, HC⟩, rfl⟩)); (case measure => (simp [intOf]; omega)))
          · have HC : Hid (2 * r = crcBits (q + 1) M) := Lib.hid (by rw [crcBits, ← HR.out, crcBit, if_neg hbig])
            go_wp2
            first | (refine ⟨⟨q + 1, 2 * r, by omega, by go_num, by go_num, by omega, HC⟩, ?_⟩; (simp [intOf]; omega)) | (go_round; (case rel => first | exact ⟨q + 1, 2 * r, by omega, by go_num, by go_num, by omega, HC⟩ | ((try refine ⟨trivial, ?_⟩); (repeat apply Exists.intro); exact ⟨⟨q + 1, 2 * r, by omega, by go_num, by go_num, by omega, HC⟩, rfl⟩)); (case measure => (simp [intOf]; omega)))
        · obtain rfl : q = 8 := by omega
          go_wp2
          first | (refine ⟨⟨k + 1, r, by omega, by go_num, rfl, hr, Lib.hid (by rw [HB.out, HR.out])⟩, ?_⟩; (simp [intOf]; omega)) | (go_round; (case rel => first | exact ⟨k + 1, r, by omega, by go_num, rfl, hr, Lib.hid (by rw [HB.out, HR.out])⟩ | ((try refine ⟨trivial, ?_⟩); (repeat apply Exists.intro); exact ⟨⟨k + 1, r, by omega, by go_num, rfl, hr, Lib.hid (by rw [HB.out, HR.out])⟩, rfl⟩)); (case measure => (simp [intOf]; omega)))
    · go_wp2
      go_ret
      exact ⟨by rw [HM.out, List.take_of_length_le (by simp; omega)]; rfl, rfl⟩

end Go.Proofs.YtnbeomceiealdaaGreatDoor

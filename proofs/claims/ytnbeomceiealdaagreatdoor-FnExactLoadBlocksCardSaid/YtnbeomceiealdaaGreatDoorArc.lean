/- An archive's lines and its whole text: both sides. -/
import Derived.Test.YtnbeomceiealdaaGreatDoorRows
import Derived.Test.YtnbeomceiealdaaGreatDoorFive
namespace Go.Proofs.YtnbeomceiealdaaGreatDoor
set_option linter.unusedVariables false
set_option linter.unusedSimpArgs false
set_option linter.unusedSectionVars false
open Go.RowKit

theorem rest_text (x : DBlock) : x.fKind ++ ⟨#[32]⟩ ++ x.fName ++ ⟨#[32]⟩ ++ x.fText = ofL (restL x) := eq_ofL (by
  simp only [bl_app]
  unfold restL
  show (((bl x.fKind ++ [32]) ++ bl x.fName) ++ [32]) ++ bl x.fText = _
  simp)
theorem line_text (r : List UInt8) : ofL (fiveL (crcL r 65535)) ++ ⟨#[32]⟩ ++ ofL r = ofL (lineL r) := eq_ofL (by
  simp only [bl_app]
  unfold lineL
  show ((ofL (fiveL (crcL r 65535))).data.toList ++ [32]) ++ (ofL r).data.toList = _
  rw [ofL_data, ofL_data]
  simp)
theorem line_nl (r : List UInt8) : ofL (lineL r) ++ ⟨#[10]⟩ = ofL (lineL r ++ [10]) := eq_ofL (by
  rw [bl_app]
  show (ofL (lineL r)).data.toList ++ [10] = _
  rw [ofL_data])
set_option maxHeartbeats 1000000 in
theorem i_lineOf (R : ByteArray) (w : World) (hs : R.size ≤ 1048576) (hL : LibW w) :
    Calls Tryz.prog 31 #[.string R] w fun e w' => e = .returned (.string (ofL (lineL (bl R)))) ∧ Below w.heap.size w w' := by
  have hlt := line_text (bl R)
  have hcl := crc_lt (bl R)
  have hR : ofL (bl R) = R := ofL_self R
  obtain ⟨c, hcc⟩ : ∃ c, crcL (bl R) 65535 = c := ⟨_, rfl⟩
  obtain ⟨V, hV⟩ : ∃ V, ofL (fiveL c) = V := ⟨_, rfl⟩
  have HC : Hid (∀ W, Calls Tryz.prog 47 #[.string R, .int .i64 65535] W fun e w' => e = .returned (.int .i64 (c : Int)) ∧ W = w') := Lib.hid fun W => by
    have h := i_Crc16 R 65535 W (by omega) (by omega)
    rw [show R.data.toList = bl R from rfl, hcc] at h
    exact h
  have hVs : V.size = 5 := by rw [← hV, ofL_size, ← hcc, five_len]
  have HF : Hid (Calls Tryz.prog 46 #[.int .i64 c, .int .i64 5] w fun e w' => e = .returned (.string V) ∧ Below w.heap.size w w') := Lib.hid (by
    have h := i_padded c w (by omega) hL
    rw [hV] at h
    exact h)
  have HE : Hid (ofL (lineL (bl R)) = V ++ ⟨#[32]⟩ ++ R) := Lib.hid (by rw [← hlt, hcc, hV, hR])
  clear hlt hcl hR hcc hV
  go_enter Tryz.func31, Tryz.ntmps31
  go_wp2_with fail
  refine (HC.out _).mono ?_
  rintro e w1 ⟨rfl, rfl⟩
  go_wp2_with fail
  refine HF.out.mono ?_
  rintro e w2 ⟨rfl, hb⟩
  go_wp2
  go_ret
  exact ⟨by rw [HE.out]; rfl, hb⟩

end Go.Proofs.YtnbeomceiealdaaGreatDoor

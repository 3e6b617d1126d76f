/- Contracts of the small range tests. -/
import Derived.Test.YtdpgnlclcakhkaaDoorRows
import Derived.Test.YtdpgnlclcakhkaaDoorBasic
namespace Go.Proofs.YtdpgnlclcakhkaaDoor
set_option linter.unusedVariables false
set_option linter.unusedSimpArgs false
set_option linter.unusedSectionVars false
open Go.RowKit

theorem i_isShare (n : Int) (w : World) : Calls Tryd.prog 103 #[.int .i64 n] w fun e w' => e = .returned (.bool (inB n (0) (1000))) ∧ w = w' := by
  go_enter Tryd.func103, Tryd.ntmps103
  go_wp2_with fail
  refine (i_within _ _ _ _).mono ?_
  rintro e w' ⟨rfl, rfl⟩
  go_wp2
  go_ret
  exact ⟨rfl, rfl⟩

theorem i_isHole (n : Int) (w : World) : Calls Tryd.prog 105 #[.int .i64 n] w fun e w' => e = .returned (.bool (inB n (20) (200))) ∧ w = w' := by
  go_enter Tryd.func105, Tryd.ntmps105
  go_wp2_with fail
  refine (i_within _ _ _ _).mono ?_
  rintro e w' ⟨rfl, rfl⟩
  go_wp2
  go_ret
  exact ⟨rfl, rfl⟩

theorem i_isHeat (n : Int) (w : World) : Calls Tryd.prog 111 #[.int .i64 n] w fun e w' => e = .returned (.bool (inB n (20) (95))) ∧ w = w' := by
  go_enter Tryd.func111, Tryd.ntmps111
  go_wp2_with fail
  refine (i_within _ _ _ _).mono ?_
  rintro e w' ⟨rfl, rfl⟩
  go_wp2
  go_ret
  exact ⟨rfl, rfl⟩

theorem i_isGrams (n : Int) (w : World) : Calls Tryd.prog 110 #[.int .i64 n] w fun e w' => e = .returned (.bool (inB n (1) (10000))) ∧ w = w' := by
  go_enter Tryd.func110, Tryd.ntmps110
  go_wp2_with fail
  refine (i_within _ _ _ _).mono ?_
  rintro e w' ⟨rfl, rfl⟩
  go_wp2
  go_ret
  exact ⟨rfl, rfl⟩

theorem i_isTone (n : Int) (w : World) : Calls Tryd.prog 100 #[.int .i64 n] w fun e w' => e = .returned (.bool (inB n (1000) (100000))) ∧ w = w' := by
  go_enter Tryd.func100, Tryd.ntmps100
  go_wp2_with fail
  refine (i_within _ _ _ _).mono ?_
  rintro e w' ⟨rfl, rfl⟩
  go_wp2
  go_ret
  exact ⟨rfl, rfl⟩

theorem i_isSpan (n : Int) (w : World) : Calls Tryd.prog 107 #[.int .i64 n] w fun e w' => e = .returned (.bool (inB n (1) (40))) ∧ w = w' := by
  go_enter Tryd.func107, Tryd.ntmps107
  go_wp2_with fail
  refine (i_within _ _ _ _).mono ?_
  rintro e w' ⟨rfl, rfl⟩
  go_wp2
  go_ret
  exact ⟨rfl, rfl⟩

theorem i_isDate (n : Int) (w : World) : Calls Tryd.prog 108 #[.int .i64 n] w fun e w' => e = .returned (.bool (inB n (0) (39))) ∧ w = w' := by
  go_enter Tryd.func108, Tryd.ntmps108
  go_wp2_with fail
  refine (i_within _ _ _ _).mono ?_
  rintro e w' ⟨rfl, rfl⟩
  go_wp2
  go_ret
  exact ⟨rfl, rfl⟩

theorem i_isMoney (n : Int) (w : World) : Calls Tryd.prog 98 #[.int .i64 n] w fun e w' => e = .returned (.bool (inB n (0) (10000000))) ∧ w = w' := by
  go_enter Tryd.func98, Tryd.ntmps98
  go_wp2_with fail
  refine (i_within _ _ _ _).mono ?_
  rintro e w' ⟨rfl, rfl⟩
  go_wp2
  go_ret
  exact ⟨rfl, rfl⟩

theorem i_isRentDay (n : Int) (w : World) : Calls Tryd.prog 142 #[.int .i64 n] w fun e w' => e = .returned (.bool (inB n (0) (100000))) ∧ w = w' := by
  go_enter Tryd.func142, Tryd.ntmps142
  go_wp2_with fail
  refine (i_within _ _ _ _).mono ?_
  rintro e w' ⟨rfl, rfl⟩
  go_wp2
  go_ret
  exact ⟨rfl, rfl⟩

theorem i_isMonths (n : Int) (w : World) : Calls Tryd.prog 143 #[.int .i64 n] w fun e w' => e = .returned (.bool (inB n (1) (120))) ∧ w = w' := by
  go_enter Tryd.func143, Tryd.ntmps143
  go_wp2_with fail
  refine (i_within _ _ _ _).mono ?_
  rintro e w' ⟨rfl, rfl⟩
  go_wp2
  go_ret
  exact ⟨rfl, rfl⟩

theorem i_isPieces (n : Int) (w : World) : Calls Tryd.prog 97 #[.int .i64 n] w fun e w' => e = .returned (.bool (inB n (0) (100000))) ∧ w = w' := by
  go_enter Tryd.func97, Tryd.ntmps97
  go_wp2_with fail
  refine (i_within _ _ _ _).mono ?_
  rintro e w' ⟨rfl, rfl⟩
  go_wp2
  go_ret
  exact ⟨rfl, rfl⟩

theorem s_l06Size (n : Int) (w : World) : Calls Tryd.prog 124 #[.int .i64 n] w fun e w' => e = .returned (.bool (inB n (1) (10000))) ∧ w = w' := by
  go_enter Tryd.func124, Tryd.ntmps124
  go_wp2_with fail
  refine (s_l00In _ _ _ _).mono ?_
  rintro e w' ⟨rfl, rfl⟩
  go_wp2
  go_ret
  exact ⟨rfl, rfl⟩

theorem s_l12Hole (n : Int) (w : World) : Calls Tryd.prog 131 #[.int .i64 n] w fun e w' => e = .returned (.bool (inB n (20) (200))) ∧ w = w' := by
  go_enter Tryd.func131, Tryd.ntmps131
  go_wp2_with fail
  refine (s_l00In _ _ _ _).mono ?_
  rintro e w' ⟨rfl, rfl⟩
  go_wp2
  go_ret
  exact ⟨rfl, rfl⟩

theorem s_l14Grams (n : Int) (w : World) : Calls Tryd.prog 134 #[.int .i64 n] w fun e w' => e = .returned (.bool (inB n (1) (10000))) ∧ w = w' := by
  go_enter Tryd.func134, Tryd.ntmps134
  go_wp2_with fail
  refine (s_l00In _ _ _ _).mono ?_
  rintro e w' ⟨rfl, rfl⟩
  go_wp2
  go_ret
  exact ⟨rfl, rfl⟩

theorem s_l14Heat (n : Int) (w : World) : Calls Tryd.prog 135 #[.int .i64 n] w fun e w' => e = .returned (.bool (inB n (20) (95))) ∧ w = w' := by
  go_enter Tryd.func135, Tryd.ntmps135
  go_wp2_with fail
  refine (s_l00In _ _ _ _).mono ?_
  rintro e w' ⟨rfl, rfl⟩
  go_wp2
  go_ret
  exact ⟨rfl, rfl⟩

theorem s_l16Tone (n : Int) (w : World) : Calls Tryd.prog 130 #[.int .i64 n] w fun e w' => e = .returned (.bool (inB n (1000) (100000))) ∧ w = w' := by
  go_enter Tryd.func130, Tryd.ntmps130
  go_wp2_with fail
  refine (s_l00In _ _ _ _).mono ?_
  rintro e w' ⟨rfl, rfl⟩
  go_wp2
  go_ret
  exact ⟨rfl, rfl⟩

theorem s_l18Day (n : Int) (w : World) : Calls Tryd.prog 133 #[.int .i64 n] w fun e w' => e = .returned (.bool (inB n (0) (39))) ∧ w = w' := by
  go_enter Tryd.func133, Tryd.ntmps133
  go_wp2_with fail
  refine (s_l00In _ _ _ _).mono ?_
  rintro e w' ⟨rfl, rfl⟩
  go_wp2
  go_ret
  exact ⟨rfl, rfl⟩

theorem s_l18Days (n : Int) (w : World) : Calls Tryd.prog 132 #[.int .i64 n] w fun e w' => e = .returned (.bool (inB n (1) (40))) ∧ w = w' := by
  go_enter Tryd.func132, Tryd.ntmps132
  go_wp2_with fail
  refine (s_l00In _ _ _ _).mono ?_
  rintro e w' ⟨rfl, rfl⟩
  go_wp2
  go_ret
  exact ⟨rfl, rfl⟩

theorem s_l20Year (n : Int) (w : World) : Calls Tryd.prog 136 #[.int .i64 n] w fun e w' => e = .returned (.bool (inB n (1500) (2100))) ∧ w = w' := by
  go_enter Tryd.func136, Tryd.ntmps136
  go_wp2_with fail
  refine (s_l00In _ _ _ _).mono ?_
  rintro e w' ⟨rfl, rfl⟩
  go_wp2
  go_ret
  exact ⟨rfl, rfl⟩

theorem s_l21Day (n : Int) (w : World) : Calls Tryd.prog 141 #[.int .i64 n] w fun e w' => e = .returned (.bool (inB n (0) (100000))) ∧ w = w' := by
  go_enter Tryd.func141, Tryd.ntmps141
  go_wp2_with fail
  refine (s_l00In _ _ _ _).mono ?_
  rintro e w' ⟨rfl, rfl⟩
  go_wp2
  go_ret
  exact ⟨rfl, rfl⟩

theorem s_l21Money (n : Int) (w : World) : Calls Tryd.prog 96 #[.int .i64 n] w fun e w' => e = .returned (.bool (inB n (0) (10000000))) ∧ w = w' := by
  go_enter Tryd.func96, Tryd.ntmps96
  go_wp2_with fail
  refine (s_l00In _ _ _ _).mono ?_
  rintro e w' ⟨rfl, rfl⟩
  go_wp2
  go_ret
  exact ⟨rfl, rfl⟩

theorem s_l21Share (n : Int) (w : World) : Calls Tryd.prog 102 #[.int .i64 n] w fun e w' => e = .returned (.bool (inB n (0) (1000))) ∧ w = w' := by
  go_enter Tryd.func102, Tryd.ntmps102
  go_wp2_with fail
  refine (s_l00In _ _ _ _).mono ?_
  rintro e w' ⟨rfl, rfl⟩
  go_wp2
  go_ret
  exact ⟨rfl, rfl⟩

theorem s_l24Margin (n : Int) (w : World) : Calls Tryd.prog 101 #[.int .i64 n] w fun e w' => e = .returned (.bool (inB n (0) (5000))) ∧ w = w' := by
  go_enter Tryd.func101, Tryd.ntmps101
  go_wp2_with fail
  refine (s_l00In _ _ _ _).mono ?_
  rintro e w' ⟨rfl, rfl⟩
  go_wp2
  go_ret
  exact ⟨rfl, rfl⟩

theorem s_l26Count (n : Int) (w : World) : Calls Tryd.prog 95 #[.int .i64 n] w fun e w' => e = .returned (.bool (inB n (0) (100000))) ∧ w = w' := by
  go_enter Tryd.func95, Tryd.ntmps95
  go_wp2_with fail
  refine (s_l00In _ _ _ _).mono ?_
  rintro e w' ⟨rfl, rfl⟩
  go_wp2
  go_ret
  exact ⟨rfl, rfl⟩

end Go.Proofs.YtdpgnlclcakhkaaDoor

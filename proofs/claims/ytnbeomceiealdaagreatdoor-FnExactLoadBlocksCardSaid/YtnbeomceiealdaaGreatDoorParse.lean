/- The block of a line: both sides. Printed by a program of mine. -/
import Derived.Test.YtnbeomceiealdaaGreatDoorRows
import Derived.Test.YtnbeomceiealdaaGreatDoorArc
import Derived.Test.YtnbeomceiealdaaGreatDoorParseLaw
import Derived.Test.YtnbeomceiealdaaGreatDoorRes
import Derived.Deep.RegionHeld3
namespace Go.Proofs.YtnbeomceiealdaaGreatDoor
set_option linter.unusedVariables false
set_option linter.unusedSimpArgs false
set_option linter.unusedSectionVars false
open Go.RowKit

theorem first_at {c : UInt8} : ∀ {l : List UInt8}, c ∈ l → ∃ i, i < l.length ∧ l[i]? = some c ∧ ∀ j, j < i → l[j]? ≠ some c
  | x :: r, h => by
    by_cases hx : x = c
    · exact ⟨0, by simp, by simp [hx], fun j hj => absurd hj (by omega)⟩
    · obtain ⟨i, h1, h2, h3⟩ := first_at (l := r) (by rcases List.mem_cons.1 h with e | h; exact absurd e.symm hx; exact h)
      refine ⟨i + 1, by simp; omega, by simpa using h2, fun j hj => ?_⟩
      cases j with
      | zero => simpa using hx
      | succ j => simpa using h3 j (by omega)
theorem get_ne {c : UInt8} {l : List UInt8} (h : c ∉ l) (j : Nat) : l[j]? ≠ some c := fun e => h (List.mem_of_getElem? e)
theorem head_le (c : UInt8) (l : List UInt8) : (headC c l).length ≤ l.length := by
  unfold headC
  exact (List.takeWhile_prefix _).length_le
theorem tail_le (c : UInt8) (l : List UInt8) : (tailC c l).length ≤ l.length := by
  unfold tailC
  rw [List.length_tail]
  have := (List.dropWhile_suffix (l := l) (· != c)).length_le
  omega
theorem blockOf_good {r : List UInt8} (h : r.length ≤ 1048576) : (blockOf r).good := by
  have h1 := head_le 32 r
  have h2 := tail_le 32 r
  have h3 := head_le 32 (tailC 32 r)
  have h4 := tail_le 32 (tailC 32 r)
  refine ⟨?_, ?_, ?_⟩ <;> unfold blockOf <;> simp only [ofL_size] <;> unfold maxLen <;> omega
theorem u8_nb {a b : UInt8} (h : a = b) : ((a.toNat : Int) != (b.toNat : Int)) = false := by rw [bne, u8_eq h]; rfl
theorem u8_nn {a b : UInt8} (h : a ≠ b) : ((a.toNat : Int) != (b.toNat : Int)) = true := by rw [bne, u8_ne h]; rfl
theorem byte_bl (s : ByteArray) (k : Nat) (h : k < s.size) : (bl s)[k]? = some s[k] := byte_at s k h
theorem ext_bl {s : ByteArray} {a b : Nat} (h : b ≤ s.size) : bl (s.extract a b) = ((bl s).drop a).take (b - a) := data_ext h
theorem toList_eqb {a b : ByteArray} (h : bl a = bl b) : (a.toList == b.toList) = true := by rw [bl_inj h]; simp
theorem toList_neb {a b : ByteArray} (h : bl a ≠ bl b) : (a.toList == b.toList) = false := by rw [beq_eq_false_iff_ne, ByteArray.toList_eq, ByteArray.toList_eq]; exact h
theorem wrap64 {n : Int} (h : -9223372036854775808 ≤ n ∧ n ≤ 9223372036854775807) : IntKind.i64.wrap n = n := by
  simp [IntKind.wrap, IntKind.min, IntKind.max, IntKind.signed, IntKind.bits]
  omega
theorem nameW {B : Nat} {w0 w : World} (h : Below B w0 w) : ∃ W, W = w ∧ Below B w0 W := ⟨w, rfl, h⟩
/-- what reading a line leaves -/
def ParseR (s : ByteArray) (w : World) (e : Ending) (w' : World) : Prop := ∃ x : DBlock, Hid (x = blockP (bl s)) ∧ e = .returned (.tuple #[.agg #[.string x.fKind, .string x.fName, .string x.fText], .int .i64 (codeP (bl s))]) ∧ Below w.heap.size w w'

set_option maxRecDepth 100000 in
set_option maxHeartbeats 4000000 in
theorem s_l29Parse (s : ByteArray) (w : World) (hs : s.size ≤ 1048576) :
    Calls Tryz.prog 11 #[.string s] w (ParseR s w) := by
  unfold ParseR
  have hR := range_new w #[.string ⟨#[]⟩, .string ⟨#[]⟩, .string ⟨#[]⟩] 34
  have hfr := fun j => new_free w #[.string ⟨#[]⟩, .string ⟨#[]⟩, .string ⟨#[]⟩] 34 j
  have hbF : Below w.heap.size w (w.alloc (.cells #[.string ⟨#[]⟩, .string ⟨#[]⟩, .string ⟨#[]⟩] 34)) := (Below.refl _ _).alloc (Nat.le_refl _) _
  have hsz : w.heap.size < (w.alloc (.cells #[.string ⟨#[]⟩, .string ⟨#[]⟩, .string ⟨#[]⟩] 34)).heap.size := by simp
  obtain ⟨W0, hW0⟩ : ∃ W0, w.alloc (.cells #[.string ⟨#[]⟩, .string ⟨#[]⟩, .string ⟨#[]⟩] 34) = W0 := ⟨_, rfl⟩
  rw [hW0] at hR hfr hbF hsz
  have hr0 := hR 0 _ rfl
  have hr1 := hR 1 _ rfl
  have hr2 := hR 2 _ rfl
  have hf0 := hfr 0
  have hf1 := hfr 1
  have hf2 := hfr 2
  simp only [Nat.zero_add] at hr0 hr1 hr2
  clear hR hfr
  by_cases h6 : s.size < 6
  · have E := Lib.hid (parse_short (l := bl s) (by rw [bl_size]; exact h6))
    have h6' : ((s.size : Nat) : Int) < 6 := by omega
    go_enter Tryz.func11, Tryz.ntmps11
    have HF := set_cells (w := W0) (g := w.heap.size) [.string ⟨#[]⟩, .string ⟨#[]⟩, .string ⟨#[]⟩] 0 (fun j hj => by
      match j, hj with
      | 0, _ => exact ⟨_, hr0⟩
      | 1, _ => exact ⟨_, hr1⟩
      | 2, _ => exact ⟨_, hr2⟩)
    have hbW := below_setCells (Nat.le_refl w.heap.size) [.string ⟨#[]⟩, .string ⟨#[]⟩, .string ⟨#[]⟩] 0 hbF
    go_wp2
    try rw [hW0]
    try rw [hW0] at *
    change bodyPost _ _ _ _ _ ((W0).setCells w.heap.size 0 [.string ⟨#[]⟩, .string ⟨#[]⟩, .string ⟨#[]⟩])
    generalize (W0).setCells w.heap.size 0 [.string ⟨#[]⟩, .string ⟨#[]⟩, .string ⟨#[]⟩] = Wf at *
    have qf0 := HF 0 _ rfl
    have qf1 := HF 1 _ rfl
    have qf2 := HF 2 _ rfl
    simp only [Nat.zero_add] at qf0 qf1 qf2
    exact bodyPost_ret (v := .tuple #[.agg #[.string ⟨#[]⟩, .string ⟨#[]⟩, .string ⟨#[]⟩], .int .i64 9]) (by simp [results, Tryz.results11, go_sem, qf0, qf1, qf2]) rfl ⟨⟨⟨#[]⟩, ⟨#[]⟩, ⟨#[]⟩⟩, Lib.hid E.out.2.symm, by rw [E.out.1], hbW⟩
  have h6' : ¬ ((s.size : Nat) : Int) < 6 := by omega
  have h5 : 5 < s.size := by omega
  have h66 : 6 ≤ s.size := by omega
  have HB := Lib.hid (byte_bl s 5 h5)
  by_cases hc : s[5] = 32
  rotate_left
  · have E := Lib.hid (parse_no (l := bl s) (by rw [HB.out]; exact fun e => hc (Option.some.inj e)))
    have hq := u8_nn hc
    have hq' : ((s[5].toNat : Int) != 32) = true := hq
    clear hc hq
    go_enter Tryz.func11, Tryz.ntmps11
    have HF := set_cells (w := W0) (g := w.heap.size) [.string ⟨#[]⟩, .string ⟨#[]⟩, .string ⟨#[]⟩] 0 (fun j hj => by
      match j, hj with
      | 0, _ => exact ⟨_, hr0⟩
      | 1, _ => exact ⟨_, hr1⟩
      | 2, _ => exact ⟨_, hr2⟩)
    have hbW := below_setCells (Nat.le_refl w.heap.size) [.string ⟨#[]⟩, .string ⟨#[]⟩, .string ⟨#[]⟩] 0 hbF
    go_wp2
    try rw [hW0]
    change bodyPost _ _ _ _ _ ((W0).setCells w.heap.size 0 [.string ⟨#[]⟩, .string ⟨#[]⟩, .string ⟨#[]⟩])
    generalize (W0).setCells w.heap.size 0 [.string ⟨#[]⟩, .string ⟨#[]⟩, .string ⟨#[]⟩] = Wf at *
    have qf0 := HF 0 _ rfl
    have qf1 := HF 1 _ rfl
    have qf2 := HF 2 _ rfl
    simp only [Nat.zero_add] at qf0 qf1 qf2
    exact bodyPost_ret (v := .tuple #[.agg #[.string ⟨#[]⟩, .string ⟨#[]⟩, .string ⟨#[]⟩], .int .i64 9]) (by simp [results, Tryz.results11, go_sem, qf0, qf1, qf2]) rfl ⟨⟨⟨#[]⟩, ⟨#[]⟩, ⟨#[]⟩⟩, Lib.hid E.out.2.symm, by rw [E.out.1], hbW⟩
  have hq := u8_nb hc
  have hq' : ((s[5].toNat : Int) != 32) = false := hq
  have HLK := Lib.hid (line_ok (l := bl s) (by rw [bl_size]; exact h66) (by rw [HB.out, hc]))
  have HI := Lib.hid (line_iff (l := bl s) (by rw [bl_size]; exact h66) (by rw [HB.out, hc]))
  clear hc hq HB
  have HRd := Lib.hid (show bl (s.extract 6 s.size) = (bl s).drop 6 by rw [ext_bl (Nat.le_refl _), List.take_of_length_le (by rw [List.length_drop, bl_size]; omega)])
  have hRs : (s.extract 6 s.size).size ≤ s.size := by rw [← bl_size, HRd.out, List.length_drop, bl_size]; omega
  obtain ⟨R, hRe⟩ : ∃ R, s.extract 6 s.size = R := ⟨_, rfl⟩
  rw [hRe] at HRd hRs
  have H5 := Lib.hid (show bl (s.extract 0 5) = (bl s).take 5 by rw [ext_bl (by omega), List.drop_zero, Nat.sub_zero])
  obtain ⟨V5, hV5⟩ : ∃ V, s.extract 0 5 = V := ⟨_, rfl⟩
  rw [hV5] at H5
  obtain ⟨c, hcc⟩ : ∃ c, crcL (bl R) 65535 = c := ⟨_, rfl⟩
  have hc65 : c < 65536 := by rw [← hcc]; exact crc_lt _
  obtain ⟨V, hV⟩ : ∃ V, ofL (fiveL c) = V := ⟨_, rfl⟩
  have HC : Hid (∀ W, Calls Tryz.prog 24 #[.string R, .int .i64 65535] W fun e w' => e = .returned (.int .i64 (c : Int)) ∧ W = w') := Lib.hid fun W => by
    have h := s_l01Crc R 65535 W (by omega) (by omega)
    rw [show R.data.toList = bl R from rfl, hcc] at h
    exact h
  have HF5 : Hid (∀ W, Calls Tryz.prog 23 #[.int .i64 c] W fun e w' => e = .returned (.string V) ∧ Below W.heap.size W w') := Lib.hid fun W => by
    have h := s_l29Five c W (by omega)
    rw [hV] at h
    exact h
  have HV : Hid (bl V = fiveL (crcL ((bl s).drop 6) 65535)) := Lib.hid (by rw [← hV, bl_ofL, ← hcc, HRd.out])
  clear hcc hV hc65
  have region : ∀ b : Bool, (V5.toList == V.toList) = b → True := fun _ _ => trivial
  clear region
  have hi5 : (5 : Int) ≤ (s.size : Int) := by omega
  by_cases hsum : bl V5 = bl V
  rotate_left
  · have E := Lib.hid (parse_sum HLK.out (by rw [← H5.out, ← HV.out]; exact hsum))
    have ht := toList_neb hsum
    have htb : (V5.toList != V.toList) = true := by rw [bne, ht]; rfl
    clear hsum
    go_enter Tryz.func11, Tryz.ntmps11
    go_wp2_with fail
    try rw [hRe]
    try rw [hW0]
    clear hW0
    go_region_held3 (fun w' => Below W0.heap.size W0 w') (first | exact (Below.refl _ _).drew | exact Below.trans (by assumption) (hb1.mono (Below.size (by assumption))) | assumption) (first | (go_at_call 24; refine (HC.out _).mono ?_; rintro e w1 ⟨rfl, rfl⟩) | (go_at_call 23; refine (HF5.out _).mono ?_; rintro e w1 ⟨rfl, hb1⟩))
    rename_i hh0
    obtain ⟨wq, rfl, hh⟩ := nameW hh0
    clear hh0
    replace hr0 := cell_later hh hr0
    replace hr1 := cell_later hh hr1
    replace hr2 := cell_later hh hr2
    replace hf0 := free_later hf0 hsz hh
    replace hf1 := free_later hf1 hsz hh
    replace hf2 := free_later hf2 hsz hh
    replace hbF := hbF.trans (hh.mono hbF.size)
    replace hsz := Nat.lt_of_lt_of_le hsz hh.size
    have HF := set_cells (w := wq) (g := w.heap.size) [.string ⟨#[]⟩, .string ⟨#[]⟩, .string ⟨#[]⟩] 0 (fun j hj => by
      match j, hj with
      | 0, _ => exact ⟨_, hr0⟩
      | 1, _ => exact ⟨_, hr1⟩
      | 2, _ => exact ⟨_, hr2⟩)
    have hbW := below_setCells (Nat.le_refl w.heap.size) [.string ⟨#[]⟩, .string ⟨#[]⟩, .string ⟨#[]⟩] 0 hbF
    go_wp2
    change bodyPost _ _ _ _ _ ((wq).setCells w.heap.size 0 [.string ⟨#[]⟩, .string ⟨#[]⟩, .string ⟨#[]⟩])
    generalize (wq).setCells w.heap.size 0 [.string ⟨#[]⟩, .string ⟨#[]⟩, .string ⟨#[]⟩] = Wf at *
    have qf0 := HF 0 _ rfl
    have qf1 := HF 1 _ rfl
    have qf2 := HF 2 _ rfl
    simp only [Nat.zero_add] at qf0 qf1 qf2
    exact bodyPost_ret (v := .tuple #[.agg #[.string ⟨#[]⟩, .string ⟨#[]⟩, .string ⟨#[]⟩], .int .i64 10]) (by simp [results, Tryz.results11, go_sem, qf0, qf1, qf2]) rfl ⟨⟨⟨#[]⟩, ⟨#[]⟩, ⟨#[]⟩⟩, Lib.hid E.out.2.symm, by rw [E.out.1], hbW⟩
  have HSM := Lib.hid (show (bl s).take 5 = fiveL (crcL ((bl s).drop 6) 65535) by rw [← H5.out, ← HV.out]; exact hsum)
  have ht := toList_eqb hsum
  have htb : (V5.toList != V.toList) = false := by rw [bne, ht]; rfl
  clear hsum
  by_cases hm : 32 ∈ bl R
  rotate_left
  · have E := Lib.hid (parse_rest HLK.out HSM.out (by rw [← HRd.out]; exact good_one hm))
    have HN : Hid (∀ j, j < R.size → (bl R)[j]? ≠ some 32) := Lib.hid (fun j _ => get_ne hm j)
    clear hm
    go_enter Tryz.func11, Tryz.ntmps11
    go_wp2_with fail
    try rw [hRe]
    try rw [hW0]
    clear hW0
    go_region_held3 (fun w' => Below W0.heap.size W0 w') (first | exact (Below.refl _ _).drew | exact Below.trans (by assumption) (hb1.mono (Below.size (by assumption))) | assumption) (first | (go_at_call 24; refine (HC.out _).mono ?_; rintro e w1 ⟨rfl, rfl⟩) | (go_at_call 23; refine (HF5.out _).mono ?_; rintro e w1 ⟨rfl, hb1⟩))
    rename_i hh0
    obtain ⟨wq, rfl, hh⟩ := nameW hh0
    clear hh0
    replace hr0 := cell_later hh hr0
    replace hr1 := cell_later hh hr1
    replace hr2 := cell_later hh hr2
    replace hf0 := free_later hf0 hsz hh
    replace hf1 := free_later hf1 hsz hh
    replace hf2 := free_later hf2 hsz hh
    replace hbF := hbF.trans (hh.mono hbF.size)
    replace hsz := Nat.lt_of_lt_of_le hsz hh.size
    clear hh ht htb
    go_wp2
    go_loop [5] (fun i => ∃ k : Nat, k ≤ R.size ∧ i = .int .i64 k) (fun i => R.size - (intOf i).toNat)
    case atStart => exact ⟨0, Nat.zero_le _, rfl⟩
    case round =>
      obtain ⟨k, hk, rfl⟩ := hrel
      by_cases hlt : k < R.size
      · have hkR : k < R.size := by omega
        have hq := u8_nn (show R[k] ≠ 32 from fun e => HN.out k hlt (by rw [byte_bl R k hkR, e]))
        have hq' : ((R[k].toNat : Int) != 32) = true := hq
        clear hq
        go_wp2
        first | (refine ⟨⟨k + 1, by omega, by go_num⟩, ?_⟩; (simp [intOf]; omega)) | (go_round; (case rel => first | exact ⟨k + 1, by omega, by go_num⟩ | ((try refine ⟨trivial, ?_⟩); (repeat apply Exists.intro); exact ⟨⟨k + 1, by omega, by go_num⟩, rfl⟩)); (case measure => (simp [intOf]; omega)))
      · obtain rfl : k = R.size := by omega
        go_wp2
        go_loop [6] (fun i => i = .int .i64 ((R.size : Int) + 1)) (fun _ => 0)
        case atStart => rfl
        case round =>
          subst hrel
          have HF := set_cells (w := wq) (g := w.heap.size) [.string ⟨#[]⟩, .string ⟨#[]⟩, .string ⟨#[]⟩] 0 (fun j hj => by
            match j, hj with
            | 0, _ => exact ⟨_, hr0⟩
            | 1, _ => exact ⟨_, hr1⟩
            | 2, _ => exact ⟨_, hr2⟩)
          have hbW := below_setCells (Nat.le_refl w.heap.size) [.string ⟨#[]⟩, .string ⟨#[]⟩, .string ⟨#[]⟩] 0 hbF
          go_wp2
          change bodyPost _ _ _ _ _ ((wq).setCells w.heap.size 0 [.string ⟨#[]⟩, .string ⟨#[]⟩, .string ⟨#[]⟩])
          generalize (wq).setCells w.heap.size 0 [.string ⟨#[]⟩, .string ⟨#[]⟩, .string ⟨#[]⟩] = Wf at *
          have qf0 := HF 0 _ rfl
          have qf1 := HF 1 _ rfl
          have qf2 := HF 2 _ rfl
          simp only [Nat.zero_add] at qf0 qf1 qf2
          exact bodyPost_ret (v := .tuple #[.agg #[.string ⟨#[]⟩, .string ⟨#[]⟩, .string ⟨#[]⟩], .int .i64 9]) (by simp [results, Tryz.results11, go_sem, qf0, qf1, qf2]) rfl ⟨⟨⟨#[]⟩, ⟨#[]⟩, ⟨#[]⟩⟩, Lib.hid E.out.2.symm, by rw [E.out.1], hbW⟩
  obtain ⟨i0, hi1, hi2, hi3⟩ := first_at hm
  have hi1' : i0 < R.size := by rw [bl_size] at hi1; exact hi1
  have hqe := u8_nb (show R[i0] = 32 from Option.some.inj ((byte_bl R i0 hi1').symm.trans hi2))
  have hqe' : ((R[i0].toNat : Int) != 32) = false := hqe
  clear hqe
  have HN : Hid (∀ j, j < i0 → (bl R)[j]? ≠ some 32) := Lib.hid hi3
  have HH := Lib.hid (head_len (c := 32) (l := bl R) (i := i0) (by omega) hi3 (fun _ => hi2))
  have HM := Lib.hid hm
  clear hi2 hi3 hm hi1
  by_cases hm2 : 32 ∈ tailC 32 (bl R)
  rotate_left
  · have E := Lib.hid (parse_rest HLK.out HSM.out (by rw [← HRd.out]; exact good_two hm2))
    have HN2 : Hid (∀ j, i0 + 1 ≤ j → j < R.size → (bl R)[j]? ≠ some 32) := Lib.hid (fun j h1 _ e => get_ne hm2 (j - (i0 + 1)) (by rw [HH.out.2.1, List.getElem?_drop, show i0 + 1 + (j - (i0 + 1)) = j by omega]; exact e))
    clear hm2
    go_enter Tryz.func11, Tryz.ntmps11
    go_wp2_with fail
    try rw [hRe]
    try rw [hW0]
    clear hW0
    go_region_held3 (fun w' => Below W0.heap.size W0 w') (first | exact (Below.refl _ _).drew | exact Below.trans (by assumption) (hb1.mono (Below.size (by assumption))) | assumption) (first | (go_at_call 24; refine (HC.out _).mono ?_; rintro e w1 ⟨rfl, rfl⟩) | (go_at_call 23; refine (HF5.out _).mono ?_; rintro e w1 ⟨rfl, hb1⟩))
    rename_i hh0
    obtain ⟨wq, rfl, hh⟩ := nameW hh0
    clear hh0
    replace hr0 := cell_later hh hr0
    replace hr1 := cell_later hh hr1
    replace hr2 := cell_later hh hr2
    replace hf0 := free_later hf0 hsz hh
    replace hf1 := free_later hf1 hsz hh
    replace hf2 := free_later hf2 hsz hh
    replace hbF := hbF.trans (hh.mono hbF.size)
    replace hsz := Nat.lt_of_lt_of_le hsz hh.size
    clear hh ht htb
    go_wp2
    go_loop [5] (fun i => ∃ k : Nat, k ≤ i0 ∧ i = .int .i64 k) (fun i => i0 - (intOf i).toNat)
    case atStart => exact ⟨0, Nat.zero_le _, rfl⟩
    case round =>
      obtain ⟨k, hk, rfl⟩ := hrel
      by_cases hlt : k < i0
      · have hkR : k < R.size := by omega
        have hq := u8_nn (show R[k] ≠ 32 from fun e => HN.out k hlt (by rw [byte_bl R k hkR, e]))
        have hq' : ((R[k].toNat : Int) != 32) = true := hq
        clear hq
        go_wp2
        first | (refine ⟨⟨k + 1, by omega, by go_num⟩, ?_⟩; (simp [intOf]; omega)) | (go_round; (case rel => first | exact ⟨k + 1, by omega, by go_num⟩ | ((try refine ⟨trivial, ?_⟩); (repeat apply Exists.intro); exact ⟨⟨k + 1, by omega, by go_num⟩, rfl⟩)); (case measure => (simp [intOf]; omega)))
      · obtain rfl : i0 = k := by omega
        go_wp2
        go_loop [6] (fun i => ∃ k : Nat, i0 + 1 ≤ k ∧ k ≤ R.size ∧ i = .int .i64 k) (fun i => R.size - (intOf i).toNat)
        case atStart => exact ⟨i0 + 1, Nat.le_refl _, by omega, by go_num⟩
        case round =>
          obtain ⟨k, hk0, hk, rfl⟩ := hrel
          by_cases hlt : k < R.size
          · have hkR : k < R.size := by omega
            have hq := u8_nn (show R[k] ≠ 32 from fun e => HN2.out k hk0 hlt (by rw [byte_bl R k hkR, e]))
            have hq' : ((R[k].toNat : Int) != 32) = true := hq
            clear hq
            go_wp2
            first | (refine ⟨⟨k + 1, by omega, by omega, by go_num⟩, ?_⟩; (simp [intOf]; omega)) | (go_round; (case rel => first | exact ⟨k + 1, by omega, by omega, by go_num⟩ | ((try refine ⟨trivial, ?_⟩); (repeat apply Exists.intro); exact ⟨⟨k + 1, by omega, by omega, by go_num⟩, rfl⟩)); (case measure => (simp [intOf]; omega)))
          · obtain rfl : k = R.size := by omega
            have HF := set_cells (w := wq) (g := w.heap.size) [.string ⟨#[]⟩, .string ⟨#[]⟩, .string ⟨#[]⟩] 0 (fun j hj => by
              match j, hj with
              | 0, _ => exact ⟨_, hr0⟩
              | 1, _ => exact ⟨_, hr1⟩
              | 2, _ => exact ⟨_, hr2⟩)
            have hbW := below_setCells (Nat.le_refl w.heap.size) [.string ⟨#[]⟩, .string ⟨#[]⟩, .string ⟨#[]⟩] 0 hbF
            go_wp2
            change bodyPost _ _ _ _ _ ((wq).setCells w.heap.size 0 [.string ⟨#[]⟩, .string ⟨#[]⟩, .string ⟨#[]⟩])
            generalize (wq).setCells w.heap.size 0 [.string ⟨#[]⟩, .string ⟨#[]⟩, .string ⟨#[]⟩] = Wf at *
            have qf0 := HF 0 _ rfl
            have qf1 := HF 1 _ rfl
            have qf2 := HF 2 _ rfl
            simp only [Nat.zero_add] at qf0 qf1 qf2
            exact bodyPost_ret (v := .tuple #[.agg #[.string ⟨#[]⟩, .string ⟨#[]⟩, .string ⟨#[]⟩], .int .i64 9]) (by simp [results, Tryz.results11, go_sem, qf0, qf1, qf2]) rfl ⟨⟨⟨#[]⟩, ⟨#[]⟩, ⟨#[]⟩⟩, Lib.hid E.out.2.symm, by rw [E.out.1], hbW⟩
  obtain ⟨i1, hj1, hj2, hj3⟩ := first_at hm2
  have hq1 : i0 + 1 + i1 < R.size := by rw [HH.out.2.1, List.length_drop, bl_size] at hj1; omega
  obtain ⟨q, hqd⟩ : ∃ q, q = i0 + 1 + i1 := ⟨_, rfl⟩
  have hqR : q < R.size := by omega
  have hq32 : (bl R)[q]? = some 32 := by
    rw [HH.out.2.1, List.getElem?_drop] at hj2
    rw [hqd]
    exact hj2
  have hqe2 := u8_nb (show R[q] = 32 from Option.some.inj ((byte_bl R q hqR).symm.trans hq32))
  have hqe2' : ((R[q].toNat : Int) != 32) = false := hqe2
  clear hqe2
  have HN2 : Hid (∀ j, i0 + 1 ≤ j → j < q → (bl R)[j]? ≠ some 32) := Lib.hid (fun j h1 h2 e => hj3 (j - (i0 + 1)) (by omega) (by rw [HH.out.2.1, List.getElem?_drop, show i0 + 1 + (j - (i0 + 1)) = j by omega]; exact e))
  have H2 := head_len (c := 32) (l := tailC 32 (bl R)) (i := i1) (by omega) hj3 (fun _ => hj2)
  have e0 := ext_bl (s := R) (a := 0) (b := i0) (by omega)
  have e1 := ext_bl (s := R) (a := i0 + 1) (b := q) (by omega)
  have e2 := ext_bl (s := R) (a := q + 1) (b := R.size) (by omega)
  rw [List.drop_zero, Nat.sub_zero] at e0
  rw [show q - (i0 + 1) = i1 by omega] at e1
  rw [List.take_of_length_le (by rw [List.length_drop, bl_size]; omega)] at e2
  have hbo : blockOf (bl R) = ⟨R.extract 0 i0, R.extract (i0 + 1) q, R.extract (q + 1) R.size⟩ := by
    unfold blockOf
    rw [H2.1, H2.2.1, HH.out.1, HH.out.2.1, ← e1, ← e0, List.drop_drop, show i0 + 1 + (i1 + 1) = q + 1 by omega, ← e2, ofL_self, ofL_self, ofL_self]
  have hgd := blockOf_good (r := bl R) (by rw [bl_size]; omega)
  rw [hbo] at hgd
  have HGA := Lib.hid (good_all HM.out hm2)
  obtain ⟨K0, hK0⟩ : ∃ K, R.extract 0 i0 = K := ⟨_, rfl⟩
  obtain ⟨K1, hK1⟩ : ∃ K, R.extract (i0 + 1) q = K := ⟨_, rfl⟩
  obtain ⟨K2, hK2⟩ : ∃ K, R.extract (q + 1) R.size = K := ⟨_, rfl⟩
  rw [hK0, hK1, hK2] at hbo hgd
  have HBO := Lib.hid hbo
  have HGD := Lib.hid hgd
  have b1 : (0 : Int) ≤ (i0 : Int) := by omega
  have b2 : (i0 : Int) ≤ (R.size : Int) := by omega
  have b3 : (i0 : Int) + 1 ≤ (q : Int) := by omega
  have b4 : (q : Int) ≤ (R.size : Int) := by omega
  have b5 : (q : Int) + 1 ≤ (R.size : Int) := by omega
  have b6 : (0 : Int) ≤ (i0 : Int) + 1 := by omega
  have b7 : (0 : Int) ≤ (q : Int) + 1 := by omega
  have b8 : IntKind.i64.wrap ((i0 : Int) + 1) = (i0 : Int) + 1 := wrap64 (by omega)
  have b9 : IntKind.i64.wrap ((q : Int) + 1) = (q : Int) + 1 := wrap64 (by omega)
  have t1 : ((i0 : Int) + 1).toNat = i0 + 1 := by omega
  have t2 : ((q : Int) + 1).toNat = q + 1 := by omega
  have hiq : i0 + 1 ≤ q := by omega
  clear hj1 hj2 hj3 hm2 hq1 hqd hq32 H2 e0 e1 e2 hbo hgd
  go_enter Tryz.func11, Tryz.ntmps11
  go_wp2_with fail
  try rw [hRe]
  try rw [hW0]
  clear hW0
  go_region_held3 (fun w' => Below W0.heap.size W0 w') (first | exact (Below.refl _ _).drew | exact Below.trans (by assumption) (hb1.mono (Below.size (by assumption))) | assumption) (first | (go_at_call 24; refine (HC.out _).mono ?_; rintro e w1 ⟨rfl, rfl⟩) | (go_at_call 23; refine (HF5.out _).mono ?_; rintro e w1 ⟨rfl, hb1⟩))
  rename_i hh0
  obtain ⟨wq, rfl, hh⟩ := nameW hh0
  clear hh0
  replace hr0 := cell_later hh hr0
  replace hr1 := cell_later hh hr1
  replace hr2 := cell_later hh hr2
  replace hf0 := free_later hf0 hsz hh
  replace hf1 := free_later hf1 hsz hh
  replace hf2 := free_later hf2 hsz hh
  replace hbF := hbF.trans (hh.mono hbF.size)
  replace hsz := Nat.lt_of_lt_of_le hsz hh.size
  clear hh ht htb
  go_wp2
  go_loop [5] (fun i => ∃ k : Nat, k ≤ i0 ∧ i = .int .i64 k) (fun i => i0 - (intOf i).toNat)
  case atStart => exact ⟨0, Nat.zero_le _, rfl⟩
  case round =>
    obtain ⟨k, hk, rfl⟩ := hrel
    by_cases hlt : k < i0
    · have hkR : k < R.size := by omega
      have hq := u8_nn (show R[k] ≠ 32 from fun e => HN.out k hlt (by rw [byte_bl R k hkR, e]))
      have hq' : ((R[k].toNat : Int) != 32) = true := hq
      clear hq
      go_wp2
      first | (refine ⟨⟨k + 1, by omega, by go_num⟩, ?_⟩; (simp [intOf]; omega)) | (go_round; (case rel => first | exact ⟨k + 1, by omega, by go_num⟩ | ((try refine ⟨trivial, ?_⟩); (repeat apply Exists.intro); exact ⟨⟨k + 1, by omega, by go_num⟩, rfl⟩)); (case measure => (simp [intOf]; omega)))
    · obtain rfl : i0 = k := by omega
      go_wp2
      go_loop [6] (fun i => ∃ k : Nat, i0 + 1 ≤ k ∧ k ≤ q ∧ i = .int .i64 k) (fun i => q - (intOf i).toNat)
      case atStart => exact ⟨i0 + 1, Nat.le_refl _, by omega, by go_num⟩
      case round =>
        obtain ⟨k, hk0, hk, rfl⟩ := hrel
        by_cases hlt : k < q
        · have hkR : k < R.size := by omega
          have hq := u8_nn (show R[k] ≠ 32 from fun e => HN2.out k hk0 hlt (by rw [byte_bl R k hkR, e]))
          have hq' : ((R[k].toNat : Int) != 32) = true := hq
          clear hq
          go_wp2
          first | (refine ⟨⟨k + 1, by omega, by omega, by go_num⟩, ?_⟩; (simp [intOf]; omega)) | (go_round; (case rel => first | exact ⟨k + 1, by omega, by omega, by go_num⟩ | ((try refine ⟨trivial, ?_⟩); (repeat apply Exists.intro); exact ⟨⟨k + 1, by omega, by omega, by go_num⟩, rfl⟩)); (case measure => (simp [intOf]; omega)))
        · obtain rfl : q = k := by omega
          go_wp2_with fail
          go_region_held3 (fun _ => True) (first | trivial) (first | fail)
          have hbx : Below wq.heap.size wq (wq.alloc (.cells #[.string K0, .string K1, .string K2] 34)).drew := ((Below.refl _ _).alloc (Nat.le_refl _) _).drew
          have hxR : (wq.alloc (.cells #[.string K0, .string K1, .string K2] 34)).drew.rangeAt wq.heap.size 0 (blockE.cells ⟨K0, K1, K2⟩) := range_new wq #[.string K0, .string K1, .string K2] 34
          obtain ⟨W2, hW2⟩ : ∃ W, (wq.alloc (.cells #[.string K0, .string K1, .string K2] 34)).drew = W := ⟨_, rfl⟩
          rw [hW2] at hbx hxR
          replace hr0 := cell_later hbx hr0
          replace hr1 := cell_later hbx hr1
          replace hr2 := cell_later hbx hr2
          replace hf0 := free_later hf0 hsz hbx
          replace hf1 := free_later hf1 hsz hbx
          replace hf2 := free_later hf2 hsz hbx
          replace hbF := hbF.trans (hbx.mono hbF.size)
          replace hsz := Nat.lt_of_lt_of_le hsz hbx.size
          have hy0 := hxR 0 _ rfl
          have hy1 := hxR 1 _ rfl
          have hy2 := hxR 2 _ rfl
          simp only [Nat.zero_add] at hy0 hy1 hy2
          clear hbx
          go_wp2_with fail
          try rw [hW2]
          clear hW2
          refine (s_l29One _ 0 ⟨K0, K1, K2⟩ _ HGD.out hxR).mono ?_
          rintro e w3 ⟨rfl, hE⟩
          subst hE
          clear hxR
          rcases hbk : blockB ⟨K0, K1, K2⟩ with _ | _
          · have E := Lib.hid (parse_rest HLK.out HSM.out (by rw [← HRd.out, HGA.out, HBO.out]; exact hbk))
            clear hbk
            have HF := set_cells (w := W2) (g := w.heap.size) [.string ⟨#[]⟩, .string ⟨#[]⟩, .string ⟨#[]⟩] 0 (fun j hj => by
              match j, hj with
              | 0, _ => exact ⟨_, hr0⟩
              | 1, _ => exact ⟨_, hr1⟩
              | 2, _ => exact ⟨_, hr2⟩)
            have hbW := below_setCells (Nat.le_refl w.heap.size) [.string ⟨#[]⟩, .string ⟨#[]⟩, .string ⟨#[]⟩] 0 hbF
            go_wp2
            change bodyPost _ _ _ _ _ ((W2).setCells w.heap.size 0 [.string ⟨#[]⟩, .string ⟨#[]⟩, .string ⟨#[]⟩])
            generalize (W2).setCells w.heap.size 0 [.string ⟨#[]⟩, .string ⟨#[]⟩, .string ⟨#[]⟩] = Wf at *
            have qf0 := HF 0 _ rfl
            have qf1 := HF 1 _ rfl
            have qf2 := HF 2 _ rfl
            simp only [Nat.zero_add] at qf0 qf1 qf2
            exact bodyPost_ret (v := .tuple #[.agg #[.string ⟨#[]⟩, .string ⟨#[]⟩, .string ⟨#[]⟩], .int .i64 9]) (by simp [results, Tryz.results11, go_sem, qf0, qf1, qf2]) rfl ⟨⟨⟨#[]⟩, ⟨#[]⟩, ⟨#[]⟩⟩, Lib.hid E.out.2.symm, by rw [E.out.1], hbW⟩
          · have E : Hid (codeP (bl s) = 0 ∧ blockP (bl s) = ⟨K0, K1, K2⟩) := Lib.hid (by
              have h := parse_good HLK.out HSM.out (by rw [← HRd.out, HGA.out, HBO.out]; exact hbk)
              rw [← HRd.out, HBO.out] at h
              exact h)
            clear hbk
            have HF := set_cells (w := W2) (g := w.heap.size) [.string K0, .string K1, .string K2] 0 (fun j hj => by
              match j, hj with
              | 0, _ => exact ⟨_, hr0⟩
              | 1, _ => exact ⟨_, hr1⟩
              | 2, _ => exact ⟨_, hr2⟩)
            have hbW := below_setCells (Nat.le_refl w.heap.size) [.string K0, .string K1, .string K2] 0 hbF
            go_wp2
            change bodyPost _ _ _ _ _ ((W2).setCells w.heap.size 0 [.string K0, .string K1, .string K2])
            generalize (W2).setCells w.heap.size 0 [.string K0, .string K1, .string K2] = Wf at *
            have qf0 := HF 0 _ rfl
            have qf1 := HF 1 _ rfl
            have qf2 := HF 2 _ rfl
            simp only [Nat.zero_add] at qf0 qf1 qf2
            exact bodyPost_ret (v := .tuple #[.agg #[.string K0, .string K1, .string K2], .int .i64 0]) (by simp [results, Tryz.results11, go_sem, qf0, qf1, qf2]) rfl ⟨⟨K0, K1, K2⟩, Lib.hid E.out.2.symm, by rw [E.out.1], hbW⟩
theorem i_cutSp (s : ByteArray) (w : World) (hs : s.size ≤ 1048576) (hL : LibW w) :
    Calls Tryz.prog 32 #[.string s, .string ⟨#[32]⟩] w fun e w' => e = .returned (.tuple #[.string (ofL (headC 32 (bl s))), .string (ofL (tailC 32 (bl s))), .bool (decide (32 ∈ bl s))]) ∧ Below w.heap.size w w' := by
  obtain ⟨m, hm⟩ := hL.max
  refine (Tryz.strings_Cut s ⟨#[32]⟩ m _ (by omega) hm).mono ?_
  rintro e w1 ⟨rfl, n, rfl⟩
  refine ⟨?_, below_drewN (Below.refl _ _) _⟩
  rw [show (⟨#[32]⟩ : ByteArray).data.toList = [32] from rfl, cut_one]
  rfl
set_option maxRecDepth 100000 in
set_option maxHeartbeats 4000000 in
theorem i_readBlock (s : ByteArray) (w : World) (hs : s.size ≤ 1048576) (hL : LibW w) :
    Calls Tryz.prog 16 #[.string s] w (ParseR s w) := by
  unfold ParseR
  have hR := range_new w #[.string ⟨#[]⟩, .string ⟨#[]⟩, .string ⟨#[]⟩] 34
  have hfr := fun j => new_free w #[.string ⟨#[]⟩, .string ⟨#[]⟩, .string ⟨#[]⟩] 34 j
  have hbF : Below w.heap.size w (w.alloc (.cells #[.string ⟨#[]⟩, .string ⟨#[]⟩, .string ⟨#[]⟩] 34)) := (Below.refl _ _).alloc (Nat.le_refl _) _
  have hsz : w.heap.size < (w.alloc (.cells #[.string ⟨#[]⟩, .string ⟨#[]⟩, .string ⟨#[]⟩] 34)).heap.size := by simp
  obtain ⟨W0, hW0⟩ : ∃ W0, w.alloc (.cells #[.string ⟨#[]⟩, .string ⟨#[]⟩, .string ⟨#[]⟩] 34) = W0 := ⟨_, rfl⟩
  rw [hW0] at hR hfr hbF hsz
  have hr0 := hR 0 _ rfl
  have hr1 := hR 1 _ rfl
  have hr2 := hR 2 _ rfl
  have hf0 := hfr 0
  have hf1 := hfr 1
  have hf2 := hfr 2
  simp only [Nat.zero_add] at hr0 hr1 hr2
  clear hR hfr
  by_cases h6 : s.size < 6
  · have E := Lib.hid (parse_short (l := bl s) (by rw [bl_size]; exact h6))
    have h6' : ((s.size : Nat) : Int) < 6 := by omega
    go_enter Tryz.func16, Tryz.ntmps16
    have HF := set_cells (w := W0) (g := w.heap.size) [.string ⟨#[]⟩, .string ⟨#[]⟩, .string ⟨#[]⟩] 0 (fun j hj => by
      match j, hj with
      | 0, _ => exact ⟨_, hr0⟩
      | 1, _ => exact ⟨_, hr1⟩
      | 2, _ => exact ⟨_, hr2⟩)
    have hbW := below_setCells (Nat.le_refl w.heap.size) [.string ⟨#[]⟩, .string ⟨#[]⟩, .string ⟨#[]⟩] 0 hbF
    go_wp2
    try rw [hW0]
    try rw [hW0] at *
    change bodyPost _ _ _ _ _ ((W0).setCells w.heap.size 0 [.string ⟨#[]⟩, .string ⟨#[]⟩, .string ⟨#[]⟩])
    generalize (W0).setCells w.heap.size 0 [.string ⟨#[]⟩, .string ⟨#[]⟩, .string ⟨#[]⟩] = Wf at *
    have qf0 := HF 0 _ rfl
    have qf1 := HF 1 _ rfl
    have qf2 := HF 2 _ rfl
    simp only [Nat.zero_add] at qf0 qf1 qf2
    exact bodyPost_ret (v := .tuple #[.agg #[.string ⟨#[]⟩, .string ⟨#[]⟩, .string ⟨#[]⟩], .int .i64 9]) (by simp [results, Tryz.results16, go_sem, qf0, qf1, qf2]) rfl ⟨⟨⟨#[]⟩, ⟨#[]⟩, ⟨#[]⟩⟩, Lib.hid E.out.2.symm, by rw [E.out.1], hbW⟩
  have h6' : ¬ ((s.size : Nat) : Int) < 6 := by omega
  have h5 : 5 < s.size := by omega
  have h66 : 6 ≤ s.size := by omega
  have HB := Lib.hid (byte_bl s 5 h5)
  by_cases hc : s[5] = 32
  rotate_left
  · have E := Lib.hid (parse_no (l := bl s) (by rw [HB.out]; exact fun e => hc (Option.some.inj e)))
    have hq := u8_nn hc
    have hq' : ((s[5].toNat : Int) != 32) = true := hq
    clear hc hq
    go_enter Tryz.func16, Tryz.ntmps16
    have HF := set_cells (w := W0) (g := w.heap.size) [.string ⟨#[]⟩, .string ⟨#[]⟩, .string ⟨#[]⟩] 0 (fun j hj => by
      match j, hj with
      | 0, _ => exact ⟨_, hr0⟩
      | 1, _ => exact ⟨_, hr1⟩
      | 2, _ => exact ⟨_, hr2⟩)
    have hbW := below_setCells (Nat.le_refl w.heap.size) [.string ⟨#[]⟩, .string ⟨#[]⟩, .string ⟨#[]⟩] 0 hbF
    go_wp2
    try rw [hW0]
    change bodyPost _ _ _ _ _ ((W0).setCells w.heap.size 0 [.string ⟨#[]⟩, .string ⟨#[]⟩, .string ⟨#[]⟩])
    generalize (W0).setCells w.heap.size 0 [.string ⟨#[]⟩, .string ⟨#[]⟩, .string ⟨#[]⟩] = Wf at *
    have qf0 := HF 0 _ rfl
    have qf1 := HF 1 _ rfl
    have qf2 := HF 2 _ rfl
    simp only [Nat.zero_add] at qf0 qf1 qf2
    exact bodyPost_ret (v := .tuple #[.agg #[.string ⟨#[]⟩, .string ⟨#[]⟩, .string ⟨#[]⟩], .int .i64 9]) (by simp [results, Tryz.results16, go_sem, qf0, qf1, qf2]) rfl ⟨⟨⟨#[]⟩, ⟨#[]⟩, ⟨#[]⟩⟩, Lib.hid E.out.2.symm, by rw [E.out.1], hbW⟩
  have hq := u8_nb hc
  have hq' : ((s[5].toNat : Int) != 32) = false := hq
  have HLK := Lib.hid (line_ok (l := bl s) (by rw [bl_size]; exact h66) (by rw [HB.out, hc]))
  have HI := Lib.hid (line_iff (l := bl s) (by rw [bl_size]; exact h66) (by rw [HB.out, hc]))
  clear hc hq HB
  have HRd := Lib.hid (show bl (s.extract 6 s.size) = (bl s).drop 6 by rw [ext_bl (Nat.le_refl _), List.take_of_length_le (by rw [List.length_drop, bl_size]; omega)])
  have hRs : (s.extract 6 s.size).size ≤ s.size := by rw [← bl_size, HRd.out, List.length_drop, bl_size]; omega
  obtain ⟨R, hRe⟩ : ∃ R, s.extract 6 s.size = R := ⟨_, rfl⟩
  rw [hRe] at HRd hRs
  have hlo := i_lineOf R W0 (by omega) (hL.below hbF)
  obtain ⟨V, hV⟩ : ∃ V, ofL (lineL (bl R)) = V := ⟨_, rfl⟩
  have HV : Hid (bl V = lineL ((bl s).drop 6)) := Lib.hid (by rw [← hV, bl_ofL, HRd.out])
  rw [hV] at hlo
  clear hV
  by_cases hsum : bl V = bl s
  rotate_left
  · have E := Lib.hid (parse_sum HLK.out (fun h => hsum (by rw [HV.out]; exact HI.out.2 h)))
    have ht := toList_neb hsum
    have htb : (V.toList != s.toList) = true := by rw [bne, ht]; rfl
    clear hsum
    go_enter Tryz.func16, Tryz.ntmps16
    go_wp2_with fail
    try rw [hRe]
    try rw [hW0]
    clear hW0
    refine hlo.mono ?_
    rintro e wq ⟨rfl, hh⟩
    clear hlo
    replace hr0 := cell_later hh hr0
    replace hr1 := cell_later hh hr1
    replace hr2 := cell_later hh hr2
    replace hf0 := free_later hf0 hsz hh
    replace hf1 := free_later hf1 hsz hh
    replace hf2 := free_later hf2 hsz hh
    replace hbF := hbF.trans (hh.mono hbF.size)
    replace hsz := Nat.lt_of_lt_of_le hsz hh.size
    have HF := set_cells (w := wq) (g := w.heap.size) [.string ⟨#[]⟩, .string ⟨#[]⟩, .string ⟨#[]⟩] 0 (fun j hj => by
      match j, hj with
      | 0, _ => exact ⟨_, hr0⟩
      | 1, _ => exact ⟨_, hr1⟩
      | 2, _ => exact ⟨_, hr2⟩)
    have hbW := below_setCells (Nat.le_refl w.heap.size) [.string ⟨#[]⟩, .string ⟨#[]⟩, .string ⟨#[]⟩] 0 hbF
    go_wp2
    change bodyPost _ _ _ _ _ ((wq).setCells w.heap.size 0 [.string ⟨#[]⟩, .string ⟨#[]⟩, .string ⟨#[]⟩])
    generalize (wq).setCells w.heap.size 0 [.string ⟨#[]⟩, .string ⟨#[]⟩, .string ⟨#[]⟩] = Wf at *
    have qf0 := HF 0 _ rfl
    have qf1 := HF 1 _ rfl
    have qf2 := HF 2 _ rfl
    simp only [Nat.zero_add] at qf0 qf1 qf2
    exact bodyPost_ret (v := .tuple #[.agg #[.string ⟨#[]⟩, .string ⟨#[]⟩, .string ⟨#[]⟩], .int .i64 10]) (by simp [results, Tryz.results16, go_sem, qf0, qf1, qf2]) rfl ⟨⟨⟨#[]⟩, ⟨#[]⟩, ⟨#[]⟩⟩, Lib.hid E.out.2.symm, by rw [E.out.1], hbW⟩
  have HSM := Lib.hid (HI.out.1 (by rw [← HV.out]; exact hsum))
  have ht := toList_eqb hsum
  have htb : (V.toList != s.toList) = false := by rw [bne, ht]; rfl
  clear hsum
  have hC1 := fun W (h : LibW W) => i_cutSp R W (by omega) h
  obtain ⟨M, hM⟩ : ∃ M, ofL (tailC 32 (bl R)) = M := ⟨_, rfl⟩
  have hMs : M.size ≤ 1048576 := by
    rw [← hM, ofL_size]
    have := tail_le 32 (bl R)
    rw [bl_size] at this
    omega
  have hC2 := fun W (h : LibW W) => i_cutSp M W hMs h
  have hbM : bl M = tailC 32 (bl R) := by rw [← hM, bl_ofL]
  have hgd := blockOf_good (r := bl R) (by rw [bl_size]; omega)
  have hbo : blockOf (bl R) = ⟨ofL (headC 32 (bl R)), ofL (headC 32 (tailC 32 (bl R))), ofL (tailC 32 (tailC 32 (bl R)))⟩ := rfl
  rw [hbM] at hC2
  rw [hM] at hC1
  rw [hbo] at hgd
  obtain ⟨K0, hK0⟩ : ∃ K, ofL (headC 32 (bl R)) = K := ⟨_, rfl⟩
  obtain ⟨K1, hK1⟩ : ∃ K, ofL (headC 32 (tailC 32 (bl R))) = K := ⟨_, rfl⟩
  obtain ⟨K2, hK2⟩ : ∃ K, ofL (tailC 32 (tailC 32 (bl R))) = K := ⟨_, rfl⟩
  rw [hK0, hK1, hK2] at hbo hgd
  rw [hK0] at hC1
  rw [hK1, hK2] at hC2
  have HBO := Lib.hid hbo
  have HGD := Lib.hid hgd
  have HL0 := Lib.hid (hL.below hbF)
  clear hK0 hK1 hK2 hbo hgd hM hMs hbM HI HV
  by_cases hm : 32 ∈ bl R
  rotate_left
  · have E := Lib.hid (parse_rest HLK.out HSM.out (by rw [← HRd.out]; exact good_one hm))
    rw [decide_eq_false hm] at hC1
    clear hm
    have HC1 := Lib.hid hC1
    have HC2 := Lib.hid hC2
    clear hC1 hC2
    go_enter Tryz.func16, Tryz.ntmps16
    go_wp2_with fail
    try rw [hRe]
    try rw [hW0]
    clear hW0
    refine hlo.mono ?_
    rintro e wq ⟨rfl, hh⟩
    clear hlo
    replace hr0 := cell_later hh hr0
    replace hr1 := cell_later hh hr1
    replace hr2 := cell_later hh hr2
    replace hf0 := free_later hf0 hsz hh
    replace hf1 := free_later hf1 hsz hh
    replace hf2 := free_later hf2 hsz hh
    replace hbF := hbF.trans (hh.mono hbF.size)
    replace hsz := Nat.lt_of_lt_of_le hsz hh.size
    have HLq := Lib.hid (HL0.out.below hh)
    clear hh
    go_wp2_with fail
    refine (HC1.out _ HLq.out).mono ?_
    rintro e wa ⟨rfl, hh⟩
    replace hr0 := cell_later hh hr0
    replace hr1 := cell_later hh hr1
    replace hr2 := cell_later hh hr2
    replace hf0 := free_later hf0 hsz hh
    replace hf1 := free_later hf1 hsz hh
    replace hf2 := free_later hf2 hsz hh
    replace hbF := hbF.trans (hh.mono hbF.size)
    replace hsz := Nat.lt_of_lt_of_le hsz hh.size
    have HLa := Lib.hid (HLq.out.below hh)
    clear hh
    go_wp2_with fail
    refine (HC2.out _ HLa.out).mono ?_
    rintro e wb ⟨rfl, hh⟩
    replace hr0 := cell_later hh hr0
    replace hr1 := cell_later hh hr1
    replace hr2 := cell_later hh hr2
    replace hf0 := free_later hf0 hsz hh
    replace hf1 := free_later hf1 hsz hh
    replace hf2 := free_later hf2 hsz hh
    replace hbF := hbF.trans (hh.mono hbF.size)
    replace hsz := Nat.lt_of_lt_of_le hsz hh.size
    have HLb := Lib.hid (HLa.out.below hh)
    clear hh
    have hbx : Below wb.heap.size wb (wb.alloc (.cells #[.string K0, .string K1, .string K2] 34)) := (Below.refl _ _).alloc (Nat.le_refl _) _
    have hxR := range_new wb #[.string K0, .string K1, .string K2] 34
    obtain ⟨W2, hW2⟩ : ∃ W, wb.alloc (.cells #[.string K0, .string K1, .string K2] 34) = W := ⟨_, rfl⟩
    rw [hW2] at hbx hxR
    replace hr0 := cell_later hbx hr0
    replace hr1 := cell_later hbx hr1
    replace hr2 := cell_later hbx hr2
    replace hf0 := free_later hf0 hsz hbx
    replace hf1 := free_later hf1 hsz hbx
    replace hf2 := free_later hf2 hsz hbx
    replace hbF := hbF.trans (hbx.mono hbF.size)
    replace hsz := Nat.lt_of_lt_of_le hsz hbx.size
    have hy0 := hxR 0 _ rfl
    have hy1 := hxR 1 _ rfl
    have hy2 := hxR 2 _ rfl
    simp only [Nat.zero_add] at hy0 hy1 hy2
    clear hbx hxR
    have HF := set_cells (w := W2) (g := w.heap.size) [.string ⟨#[]⟩, .string ⟨#[]⟩, .string ⟨#[]⟩] 0 (fun j hj => by
      match j, hj with
      | 0, _ => exact ⟨_, hr0⟩
      | 1, _ => exact ⟨_, hr1⟩
      | 2, _ => exact ⟨_, hr2⟩)
    have hbW := below_setCells (Nat.le_refl w.heap.size) [.string ⟨#[]⟩, .string ⟨#[]⟩, .string ⟨#[]⟩] 0 hbF
    go_wp2
    try rw [hW2]
    change bodyPost _ _ _ _ _ ((W2).setCells w.heap.size 0 [.string ⟨#[]⟩, .string ⟨#[]⟩, .string ⟨#[]⟩])
    generalize (W2).setCells w.heap.size 0 [.string ⟨#[]⟩, .string ⟨#[]⟩, .string ⟨#[]⟩] = Wf at *
    have qf0 := HF 0 _ rfl
    have qf1 := HF 1 _ rfl
    have qf2 := HF 2 _ rfl
    simp only [Nat.zero_add] at qf0 qf1 qf2
    exact bodyPost_ret (v := .tuple #[.agg #[.string ⟨#[]⟩, .string ⟨#[]⟩, .string ⟨#[]⟩], .int .i64 9]) (by simp [results, Tryz.results16, go_sem, qf0, qf1, qf2]) rfl ⟨⟨⟨#[]⟩, ⟨#[]⟩, ⟨#[]⟩⟩, Lib.hid E.out.2.symm, by rw [E.out.1], hbW⟩
  rw [decide_eq_true hm] at hC1
  by_cases hm2 : 32 ∈ tailC 32 (bl R)
  rotate_left
  · have E := Lib.hid (parse_rest HLK.out HSM.out (by rw [← HRd.out]; exact good_two hm2))
    rw [decide_eq_false hm2] at hC2
    clear hm hm2
    have HC1 := Lib.hid hC1
    have HC2 := Lib.hid hC2
    clear hC1 hC2
    go_enter Tryz.func16, Tryz.ntmps16
    go_wp2_with fail
    try rw [hRe]
    try rw [hW0]
    clear hW0
    refine hlo.mono ?_
    rintro e wq ⟨rfl, hh⟩
    clear hlo
    replace hr0 := cell_later hh hr0
    replace hr1 := cell_later hh hr1
    replace hr2 := cell_later hh hr2
    replace hf0 := free_later hf0 hsz hh
    replace hf1 := free_later hf1 hsz hh
    replace hf2 := free_later hf2 hsz hh
    replace hbF := hbF.trans (hh.mono hbF.size)
    replace hsz := Nat.lt_of_lt_of_le hsz hh.size
    have HLq := Lib.hid (HL0.out.below hh)
    clear hh
    go_wp2_with fail
    refine (HC1.out _ HLq.out).mono ?_
    rintro e wa ⟨rfl, hh⟩
    replace hr0 := cell_later hh hr0
    replace hr1 := cell_later hh hr1
    replace hr2 := cell_later hh hr2
    replace hf0 := free_later hf0 hsz hh
    replace hf1 := free_later hf1 hsz hh
    replace hf2 := free_later hf2 hsz hh
    replace hbF := hbF.trans (hh.mono hbF.size)
    replace hsz := Nat.lt_of_lt_of_le hsz hh.size
    have HLa := Lib.hid (HLq.out.below hh)
    clear hh
    go_wp2_with fail
    refine (HC2.out _ HLa.out).mono ?_
    rintro e wb ⟨rfl, hh⟩
    replace hr0 := cell_later hh hr0
    replace hr1 := cell_later hh hr1
    replace hr2 := cell_later hh hr2
    replace hf0 := free_later hf0 hsz hh
    replace hf1 := free_later hf1 hsz hh
    replace hf2 := free_later hf2 hsz hh
    replace hbF := hbF.trans (hh.mono hbF.size)
    replace hsz := Nat.lt_of_lt_of_le hsz hh.size
    have HLb := Lib.hid (HLa.out.below hh)
    clear hh
    have hbx : Below wb.heap.size wb (wb.alloc (.cells #[.string K0, .string K1, .string K2] 34)) := (Below.refl _ _).alloc (Nat.le_refl _) _
    have hxR := range_new wb #[.string K0, .string K1, .string K2] 34
    obtain ⟨W2, hW2⟩ : ∃ W, wb.alloc (.cells #[.string K0, .string K1, .string K2] 34) = W := ⟨_, rfl⟩
    rw [hW2] at hbx hxR
    replace hr0 := cell_later hbx hr0
    replace hr1 := cell_later hbx hr1
    replace hr2 := cell_later hbx hr2
    replace hf0 := free_later hf0 hsz hbx
    replace hf1 := free_later hf1 hsz hbx
    replace hf2 := free_later hf2 hsz hbx
    replace hbF := hbF.trans (hbx.mono hbF.size)
    replace hsz := Nat.lt_of_lt_of_le hsz hbx.size
    have hy0 := hxR 0 _ rfl
    have hy1 := hxR 1 _ rfl
    have hy2 := hxR 2 _ rfl
    simp only [Nat.zero_add] at hy0 hy1 hy2
    clear hbx hxR
    have HF := set_cells (w := W2) (g := w.heap.size) [.string ⟨#[]⟩, .string ⟨#[]⟩, .string ⟨#[]⟩] 0 (fun j hj => by
      match j, hj with
      | 0, _ => exact ⟨_, hr0⟩
      | 1, _ => exact ⟨_, hr1⟩
      | 2, _ => exact ⟨_, hr2⟩)
    have hbW := below_setCells (Nat.le_refl w.heap.size) [.string ⟨#[]⟩, .string ⟨#[]⟩, .string ⟨#[]⟩] 0 hbF
    go_wp2
    try rw [hW2]
    change bodyPost _ _ _ _ _ ((W2).setCells w.heap.size 0 [.string ⟨#[]⟩, .string ⟨#[]⟩, .string ⟨#[]⟩])
    generalize (W2).setCells w.heap.size 0 [.string ⟨#[]⟩, .string ⟨#[]⟩, .string ⟨#[]⟩] = Wf at *
    have qf0 := HF 0 _ rfl
    have qf1 := HF 1 _ rfl
    have qf2 := HF 2 _ rfl
    simp only [Nat.zero_add] at qf0 qf1 qf2
    exact bodyPost_ret (v := .tuple #[.agg #[.string ⟨#[]⟩, .string ⟨#[]⟩, .string ⟨#[]⟩], .int .i64 9]) (by simp [results, Tryz.results16, go_sem, qf0, qf1, qf2]) rfl ⟨⟨⟨#[]⟩, ⟨#[]⟩, ⟨#[]⟩⟩, Lib.hid E.out.2.symm, by rw [E.out.1], hbW⟩
  have HGA := Lib.hid (good_all hm hm2)
  rw [decide_eq_true hm2] at hC2
  clear hm hm2
  have HC1 := Lib.hid hC1
  have HC2 := Lib.hid hC2
  clear hC1 hC2
  go_enter Tryz.func16, Tryz.ntmps16
  go_wp2_with fail
  try rw [hRe]
  try rw [hW0]
  clear hW0
  refine hlo.mono ?_
  rintro e wq ⟨rfl, hh⟩
  clear hlo
  replace hr0 := cell_later hh hr0
  replace hr1 := cell_later hh hr1
  replace hr2 := cell_later hh hr2
  replace hf0 := free_later hf0 hsz hh
  replace hf1 := free_later hf1 hsz hh
  replace hf2 := free_later hf2 hsz hh
  replace hbF := hbF.trans (hh.mono hbF.size)
  replace hsz := Nat.lt_of_lt_of_le hsz hh.size
  have HLq := Lib.hid (HL0.out.below hh)
  clear hh
  go_wp2_with fail
  refine (HC1.out _ HLq.out).mono ?_
  rintro e wa ⟨rfl, hh⟩
  replace hr0 := cell_later hh hr0
  replace hr1 := cell_later hh hr1
  replace hr2 := cell_later hh hr2
  replace hf0 := free_later hf0 hsz hh
  replace hf1 := free_later hf1 hsz hh
  replace hf2 := free_later hf2 hsz hh
  replace hbF := hbF.trans (hh.mono hbF.size)
  replace hsz := Nat.lt_of_lt_of_le hsz hh.size
  have HLa := Lib.hid (HLq.out.below hh)
  clear hh
  go_wp2_with fail
  refine (HC2.out _ HLa.out).mono ?_
  rintro e wb ⟨rfl, hh⟩
  replace hr0 := cell_later hh hr0
  replace hr1 := cell_later hh hr1
  replace hr2 := cell_later hh hr2
  replace hf0 := free_later hf0 hsz hh
  replace hf1 := free_later hf1 hsz hh
  replace hf2 := free_later hf2 hsz hh
  replace hbF := hbF.trans (hh.mono hbF.size)
  replace hsz := Nat.lt_of_lt_of_le hsz hh.size
  have HLb := Lib.hid (HLa.out.below hh)
  clear hh
  have hbx : Below wb.heap.size wb (wb.alloc (.cells #[.string K0, .string K1, .string K2] 34)) := (Below.refl _ _).alloc (Nat.le_refl _) _
  have hxR := range_new wb #[.string K0, .string K1, .string K2] 34
  obtain ⟨W2, hW2⟩ : ∃ W, wb.alloc (.cells #[.string K0, .string K1, .string K2] 34) = W := ⟨_, rfl⟩
  rw [hW2] at hbx hxR
  replace hr0 := cell_later hbx hr0
  replace hr1 := cell_later hbx hr1
  replace hr2 := cell_later hbx hr2
  replace hf0 := free_later hf0 hsz hbx
  replace hf1 := free_later hf1 hsz hbx
  replace hf2 := free_later hf2 hsz hbx
  replace hbF := hbF.trans (hbx.mono hbF.size)
  replace hsz := Nat.lt_of_lt_of_le hsz hbx.size
  have hy0 := hxR 0 _ rfl
  have hy1 := hxR 1 _ rfl
  have hy2 := hxR 2 _ rfl
  simp only [Nat.zero_add] at hy0 hy1 hy2
  clear hbx hxR
  go_wp2_with fail
  try rw [hW2]
  clear hW2
  refine (i_ValidBlock ⟨K0, K1, K2⟩ _ HGD.out).mono ?_
  rintro e w5 ⟨rfl, hh⟩
  replace hr0 := cell_later hh hr0
  replace hr1 := cell_later hh hr1
  replace hr2 := cell_later hh hr2
  replace hf0 := free_later hf0 hsz hh
  replace hf1 := free_later hf1 hsz hh
  replace hf2 := free_later hf2 hsz hh
  replace hbF := hbF.trans (hh.mono hbF.size)
  replace hsz := Nat.lt_of_lt_of_le hsz hh.size
  replace hy0 := cell_later hh hy0
  replace hy1 := cell_later hh hy1
  replace hy2 := cell_later hh hy2
  clear hh
  rcases hbk : blockB ⟨K0, K1, K2⟩ with _ | _
  · have E := Lib.hid (parse_rest HLK.out HSM.out (by rw [← HRd.out, HGA.out, HBO.out]; exact hbk))
    clear hbk
    have HF := set_cells (w := w5) (g := w.heap.size) [.string ⟨#[]⟩, .string ⟨#[]⟩, .string ⟨#[]⟩] 0 (fun j hj => by
      match j, hj with
      | 0, _ => exact ⟨_, hr0⟩
      | 1, _ => exact ⟨_, hr1⟩
      | 2, _ => exact ⟨_, hr2⟩)
    have hbW := below_setCells (Nat.le_refl w.heap.size) [.string ⟨#[]⟩, .string ⟨#[]⟩, .string ⟨#[]⟩] 0 hbF
    go_wp2
    change bodyPost _ _ _ _ _ ((w5).setCells w.heap.size 0 [.string ⟨#[]⟩, .string ⟨#[]⟩, .string ⟨#[]⟩])
    generalize (w5).setCells w.heap.size 0 [.string ⟨#[]⟩, .string ⟨#[]⟩, .string ⟨#[]⟩] = Wf at *
    have qf0 := HF 0 _ rfl
    have qf1 := HF 1 _ rfl
    have qf2 := HF 2 _ rfl
    simp only [Nat.zero_add] at qf0 qf1 qf2
    exact bodyPost_ret (v := .tuple #[.agg #[.string ⟨#[]⟩, .string ⟨#[]⟩, .string ⟨#[]⟩], .int .i64 9]) (by simp [results, Tryz.results16, go_sem, qf0, qf1, qf2]) rfl ⟨⟨⟨#[]⟩, ⟨#[]⟩, ⟨#[]⟩⟩, Lib.hid E.out.2.symm, by rw [E.out.1], hbW⟩
  · have E : Hid (codeP (bl s) = 0 ∧ blockP (bl s) = ⟨K0, K1, K2⟩) := Lib.hid (by
      have h := parse_good HLK.out HSM.out (by rw [← HRd.out, HGA.out, HBO.out]; exact hbk)
      rw [← HRd.out, HBO.out] at h
      exact h)
    clear hbk
    have HF := set_cells (w := w5) (g := w.heap.size) [.string K0, .string K1, .string K2] 0 (fun j hj => by
      match j, hj with
      | 0, _ => exact ⟨_, hr0⟩
      | 1, _ => exact ⟨_, hr1⟩
      | 2, _ => exact ⟨_, hr2⟩)
    have hbW := below_setCells (Nat.le_refl w.heap.size) [.string K0, .string K1, .string K2] 0 hbF
    go_wp2
    change bodyPost _ _ _ _ _ ((w5).setCells w.heap.size 0 [.string K0, .string K1, .string K2])
    generalize (w5).setCells w.heap.size 0 [.string K0, .string K1, .string K2] = Wf at *
    have qf0 := HF 0 _ rfl
    have qf1 := HF 1 _ rfl
    have qf2 := HF 2 _ rfl
    simp only [Nat.zero_add] at qf0 qf1 qf2
    exact bodyPost_ret (v := .tuple #[.agg #[.string K0, .string K1, .string K2], .int .i64 0]) (by simp [results, Tryz.results16, go_sem, qf0, qf1, qf2]) rfl ⟨⟨K0, K1, K2⟩, Lib.hid E.out.2.symm, by rw [E.out.1], hbW⟩

end Go.Proofs.YtnbeomceiealdaaGreatDoor

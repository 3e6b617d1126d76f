/- The reference's text of a list of numbers that are not negative. -/
import Derived.Test.YtndbppplkfpgnaaDoorRows
import Derived.Test.YtndbppplkfpgnaaDoorDec
import Derived.Test.YtndbppplkfpgnaaDoorListTx
namespace Go.Proofs.YtndbppplkfpgnaaDoor
set_option linter.unusedVariables false
set_option linter.unusedSimpArgs false
set_option linter.unusedSectionVars false
open Go.RowKit Go.Lib

def textTo (ns : List Int) (k : Nat) : List UInt8 := joinC 44 ((ns.take k).map itoa)
theorem joinC_snoc (c : UInt8) (x : List UInt8) : ∀ {l : List (List UInt8)}, l ≠ [] → joinC c (l ++ [x]) = joinC c l ++ c :: x
  | [], h => absurd rfl h
  | [a], _ => rfl
  | a :: b :: r, _ => by
    rw [List.cons_append, joinC_cons c a (by simp), joinC_snoc c x (l := b :: r) (by simp), joinC_cons c a (by simp)]
    simp
theorem textTo_zero (ns : List Int) : textTo ns 0 = [] := by simp [textTo, joinC]
theorem textTo_one {ns : List Int} {x : Int} (hx : ns[0]? = some x) : textTo ns 1 = itoa x := by
  unfold textTo
  rw [List.take_add_one, hx]
  simp [joinC]
theorem textTo_more {ns : List Int} {k : Nat} {x : Int} (hk : 0 < k) (hx : ns[k]? = some x) : textTo ns (k + 1) = textTo ns k ++ 44 :: itoa x := by
  unfold textTo
  rw [List.take_add_one, hx, List.map_append]
  refine joinC_snoc 44 (itoa x) (fun h => ?_)
  have hl := congrArg List.length h
  have := (List.getElem?_eq_some_iff.1 hx).1
  rw [List.length_map, List.length_take, List.length_nil] at hl
  omega
theorem textTo_all {ns : List Int} (h : ns ≠ []) : textTo ns ns.length = textL ns := by
  unfold textTo textL
  rw [List.take_length, if_neg h]

theorem ofL_add (a b : List UInt8) : ofL a ++ ofL b = ofL (a ++ b) := by
  have h : ∀ {x y : ByteArray}, x.data.toList = y.data.toList → x = y := fun {x y} h => by rw [← ofL_self x, ← ofL_self y, h]
  apply h
  rw [ba_app, ofL_data, ofL_data, ofL_data]
theorem itoa_smallT {x : Int} (h0 : 0 ≤ x) (h1 : x ≤ 1000000000000) : (itoa x).length ≤ 13 := by
  obtain ⟨n, rfl⟩ := Int.eq_ofNat_of_zero_le h0
  unfold itoa
  rw [if_neg (by omega), Int.toNat_natCast, decDigits_length]
  have b : ∀ k u, u < 10 ^ (k + 1) → nDigits u ≤ k + 1 := by
    intro k
    induction k with
    | zero => intro u hu; rw [nDigits_small (by omega)]; omega
    | succ k ih =>
      intro u hu
      by_cases h : u < 10
      · rw [nDigits_small h]; omega
      · rw [nDigits_big h]
        have := ih (u / 10) (by rw [Nat.div_lt_iff_lt_mul (by omega)]; rw [Nat.pow_succ] at hu; exact hu)
        omega
  exact b 12 n (by omega)
set_option maxHeartbeats 1000000 in
theorem s_l01List (A : Option Addr) (n c : Nat) (ns : List Int) (w : World) (hr : Rd intE w A n ns) (hn : 0 < n) (h64 : n ≤ 64) (hg : ∀ x ∈ ns, 0 ≤ x ∧ x ≤ 1000000000000) :
    Calls Tryd.prog 23 #[.slice A n c] w fun e w' => e = .returned (.string (ofL (textL ns))) ∧ Below w.heap.size w w' := by
  have Hl := Lib.hid hr.1
  have HG := Lib.hid hg
  have hne : ns ≠ [] := fun e => by have := Hl.out; rw [e] at this; simp at this; omega
  have HA := Lib.hid (textTo_all hne)
  have hn0 : ((n : Int) == 0) = false := by rw [beq_eq_false_iff_ne]; omega
  clear hg hne
  go_enter Tryd.func23, Tryd.ntmps23
  go_wp2_with fail
  go_loopw [3, 4] (fun v i wr => ∃ (k : Nat) (T : ByteArray), k ≤ n ∧ i = .int .i64 k ∧ v = .string T ∧ Hid (T = ofL (textTo ns k)) ∧ Hid (T.size ≤ 14 * k) ∧ Below w.heap.size w wr) (fun _ i _ => n - (intOf i).toNat)
  case atStart => exact ⟨0, ⟨#[]⟩, Nat.zero_le _, rfl, rfl, Lib.hid (by rw [textTo_zero]; rfl), Lib.hid (by show (0 : Nat) ≤ _; omega), Below.refl _ _⟩
  case round =>
    obtain ⟨k, T, hk, rfl, rfl, HT, HS, hb⟩ := hrel
    by_cases hlt : k < n
    · obtain ⟨b, off, x, rfl, hx, hc⟩ := hr.get hlt
      have hc0 := range_below (B := 0) hc hb 0 (.int .i64 x) rfl
      simp only [intE, Nat.mul_one, Nat.add_zero] at hc0
      have hxg := HG.out x (List.mem_of_getElem? hx)
      have hxl := itoa_smallT hxg.1 hxg.2
      have HX := Lib.hid hx
      obtain ⟨q, rfl⟩ := Int.eq_ofNat_of_zero_le hxg.1
      have hd := fun W => s_l01Dec q W (by omega)
      obtain ⟨D, hD⟩ : ∃ D, ofL (itoa (q : Int)) = D := ⟨_, rfl⟩
      have hDs : D.size ≤ 13 := by rw [← hD, ofL_size]; exact hxl
      rw [hD] at hd
      have hTs := HS.out
      have HD := Lib.hid hD
      clear hc hx hD hxl
      rcases Nat.eq_zero_or_pos k with hk0 | hk0
      · subst hk0
        rw [Nat.add_zero] at hc0
        have HN : Hid (T ++ D = ofL (textTo ns (0 + 1))) := Lib.hid (by rw [HT.out, textTo_zero, textTo_one HX.out, ← HD.out, ofL_add]; rfl)
        have HN2 : Hid ((T ++ D).size ≤ 14 * (0 + 1)) := Lib.hid (by rw [ba_app_size]; omega)
        go_wp2_with fail
        refine (hd _).mono ?_
        rintro e w2 ⟨rfl, hb2⟩
        have hbN := hb.trans (hb2.mono hb.size)
        clear hd
        go_wp2
        first | (refine ⟨⟨0 + 1, T ++ D, by omega, by go_num, rfl, HN, HN2, hbN⟩, ?_⟩; (first | (simp [intOf]; done) | (simp [intOf]; omega))) | (go_roundw; (case rel => first | exact ⟨0 + 1, T ++ D, by omega, by go_num, rfl, HN, HN2, hbN⟩ | ((try refine ⟨trivial, ?_⟩); (repeat apply Exists.intro); exact ⟨⟨0 + 1, T ++ D, by omega, by go_num, rfl, HN, HN2, hbN⟩, rfl⟩)); (case measure => (first | (simp [intOf]; done) | (simp [intOf]; omega))))
      · have hk0i : (0 : Int) < (k : Int) := by omega
        have HN : Hid (T ++ ⟨#[44]⟩ ++ D = ofL (textTo ns (k + 1))) := Lib.hid (by
          rw [HT.out, textTo_more hk0 HX.out, ← HD.out, show (⟨#[44]⟩ : ByteArray) = ofL [44] from rfl, ofL_add, ofL_add]
          simp)
        have HN2 : Hid ((T ++ ⟨#[44]⟩ ++ D).size ≤ 14 * (k + 1)) := Lib.hid (by rw [ba_app_size, ba_app_size]; show _ + 1 + _ ≤ _; omega)
        have hTD : (T ++ ⟨#[44]⟩).size ≤ 14 * k + 1 := by rw [ba_app_size]; show _ + 1 ≤ _; omega
        go_wp2_with fail
        refine (hd _).mono ?_
        rintro e w2 ⟨rfl, hb2⟩
        have hbN := hb.trans (hb2.mono hb.size)
        clear hd
        go_wp2
        first | (refine ⟨⟨k + 1, T ++ ⟨#[44]⟩ ++ D, by omega, by go_num, rfl, HN, HN2, hbN⟩, ?_⟩; (simp [intOf]; omega)) | (go_roundw; (case rel => first | exact ⟨k + 1, T ++ ⟨#[44]⟩ ++ D, by omega, by go_num, rfl, HN, HN2, hbN⟩ | ((try refine ⟨trivial, ?_⟩); (repeat apply Exists.intro); exact ⟨⟨k + 1, T ++ ⟨#[44]⟩ ++ D, by omega, by go_num, rfl, HN, HN2, hbN⟩, rfl⟩)); (case measure => (simp [intOf]; omega)))
    · have E : Hid (ofL (textL ns) = T) := Lib.hid (by rw [HT.out, ← HA.out, Hl.out, show k = n by omega])
      go_wp2
      go_ret
      exact ⟨by rw [E.out]; rfl, hb⟩

end Go.Proofs.YtndbppplkfpgnaaDoor

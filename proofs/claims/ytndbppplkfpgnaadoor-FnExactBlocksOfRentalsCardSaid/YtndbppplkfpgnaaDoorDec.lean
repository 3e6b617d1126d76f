/- A number's decimal text: the reference's, laid from its low end and turned round. -/
import Derived.Test.YtndbppplkfpgnaaDoorRows
import Derived.Test.YtndbppplkfpgnaaDoorTwo
import Derived.Test.YtndbppplkfpgnaaDoorDecLaw
import Derived.Laws.IdiomStrings
namespace Go.Proofs.YtndbppplkfpgnaaDoor
set_option linter.unusedVariables false
set_option linter.unusedSimpArgs false
set_option linter.unusedSectionVars false
open Go.RowKit

def byteE : Enc UInt8 := ⟨1, fun b => [.int .u8 b.toNat], fun _ => rfl, by decide, fun _ u h => by simp at h; subst h; rfl⟩
theorem byte_back {w : World} {A : Option Addr} {n c : Nat} {l : List UInt8} (hr : Rd byteE w A n l) (hn : 0 < n) : (convert 54 9 (.slice A n c)).run Tryd.prog w = .ok (.string (ofL l)) w := by
  obtain ⟨b, off, rfl, hc⟩ := hr.2 hn
  have hl := hr.1
  subst hl
  refine run_convert_bytes_back w 54 9 5 _ c l Tryd.underlying54 Tryd.underlying5 Tryd.underlying9 fun j hj => ?_
  have h := hc j l[j] (List.getElem?_eq_getElem hj) 0 _ rfl
  rw [addr_add]
  simpa [byteE] using h
theorem Tryd.info_u8 : (Tryd.prog.info? 5).map (fun i => (i.zero, i.size, i.bytes)) = some (some (.int .u8 0), 1, 1) := by kernel_rfl

theorem nDigits_le20 (n : Nat) (h : n ≤ 9223372036854775807) : Lib.nDigits n ≤ 19 := by
  have b : ∀ k u, u < 10 ^ (k + 1) → Lib.nDigits u ≤ k + 1 := by
    intro k
    induction k with
    | zero => intro u hu; rw [Lib.nDigits_small (by omega)]; omega
    | succ k ih =>
      intro u hu
      by_cases h : u < 10
      · rw [Lib.nDigits_small h]; omega
      · rw [Lib.nDigits_big h]
        have := ih (u / 10) (by rw [Nat.div_lt_iff_lt_mul (by omega)]; rw [Nat.pow_succ] at hu; exact hu)
        omega
  exact b 18 n (Nat.lt_of_le_of_lt h (by decide))
set_option maxRecDepth 100000 in
set_option maxHeartbeats 2000000 in
theorem s_l01Dec (n : Nat) (w : World) (hn : n ≤ 9223372036854775807) :
    Calls Tryd.prog 31 #[.int .i64 n] w fun e w' => e = .returned (.string (ofL (Lib.itoa (n : Int)))) ∧ Below w.heap.size w w' := by
  rcases Nat.eq_zero_or_pos n with h0 | h0
  · subst h0
    have E := Lib.hid itoa_zero
    go_enter Tryd.func31, Tryd.ntmps31
    go_wp2
    go_ret
    refine ⟨?_, by (repeat (first | exact Below.refl _ _ | assumption | refine Below.drew ?_ | refine Below.alloc ?_ (by first | omega | (simp; done) | (simp; omega) | exact Below.size (by assumption)) _ | refine Below.setCell ?_ (by first | omega | (simp; done) | (simp; omega)) _))⟩
    show _ = Ending.returned (.string (ofL (Lib.itoa 0)))
    rw [E.out]
    rfl
  · obtain ⟨i0, hi, hz0, hz1, hz2⟩ := info_parts Tryd.info_u8
    have HZ := Lib.hid (And.intro hz0 hz1); clear hz0 hz1
    have hn0 : ((n : Int) == 0) = false := by rw [beq_eq_false_iff_ne]; omega
    have hb0 : Below w.heap.size w (w.alloc (.cells #[] 5)) := (Below.refl _ _).alloc (Nat.le_refl _) _
    go_enter Tryd.func31, Tryd.ntmps31
    go_wp2_with fail
    go_loopw [3, 4] (fun v i wr => ∃ (m k : Nat) (r : List UInt8) (A : Option Addr) (c : Nat), m ≤ n ∧ i = .int .i64 m ∧ v = .slice A k c ∧ GL byteE 5 w.heap.size wr (.slice A k c) r ∧ Hid (DecSt n m r) ∧ Below w.heap.size w wr) (fun _ i _ => (intOf i).toNat)
    case atStart => exact ⟨n, 0, [], _, _, Nat.le_refl _, rfl, rfl, GL.mk0 (Nat.le_refl _), Lib.hid (DecSt.start n), hb0⟩
    case round =>
      clear hb0
      obtain ⟨m, k, r, A, c, hm, rfl, rfl, hgl, HD, hb⟩ := hrel
      rcases Nat.eq_zero_or_pos m with hm0 | hm0
      · subst hm0
        have hlk := hgl.len
        have E := HD.out.over h0
        have hkp : 0 < k := by
          have := itoa_pos n
          rw [E, List.length_reverse] at this
          omega
        have hk19 : k ≤ 20 := by
          have h1 := HD.out.eq
          unfold decP at h1
          rw [if_neg (by omega), if_pos rfl, List.nil_append] at h1
          have h2 := Lib.nDigits_pos n
          have h3 : (Lib.decDigits n).length = k := by rw [h1, List.length_reverse]; omega
          rw [Lib.decDigits_length] at h3
          have := nDigits_le20 n hn
          omega
        have HE := Lib.hid E
        clear E HD
        obtain ⟨wA, rfl⟩ : ∃ wA : World, wA = wr := ⟨_, rfl⟩
        have hnn : ¬ (n : Int) < 0 := by omega
        have hbO : Below wA.heap.size wA (wA.alloc (.cells #[] 5)) := (Below.refl _ _).alloc (Nat.le_refl _) _
        have hbs := hb.size
        go_wp2_with fail
        go_loopw [6, 7] (fun v i wq => ∃ (j z : Nat) (A2 : Option Addr) (c2 : Nat), j ≤ k ∧ z + j = k ∧ i = .int .i64 ((j : Int) - 1) ∧ v = .slice A2 z c2 ∧ GL byteE 5 wA.heap.size wq (.slice A2 z c2) (r.drop j).reverse ∧ Below wA.heap.size wA wq) (fun _ i _ => (intOf i + 1).toNat)
        case atStart => exact ⟨k, 0, _, _, Nat.le_refl _, by omega, by go_num, rfl, by rw [List.drop_of_length_le (by omega)]; exact GL.mk0 (Nat.le_refl _), hbO⟩
        case round =>
          clear hbO
          obtain ⟨j, z, A2, c2, hj, hzj, rfl, rfl, hglq, hbq⟩ := hrel
          rcases Nat.eq_zero_or_pos j with hj0 | hj0
          · subst hj0
            obtain rfl : z = k := by omega
            have hcv := byte_back (c := c2) hglq.rd (by omega)
            have hR : Hid ((r.drop 0).reverse = Lib.itoa (n : Int)) := Lib.hid (by rw [HE.out, List.drop_zero])
            rw [hR.out] at hcv
            have hbF := hb.trans (hbq.mono hbs)
            go_wp2
            go_ret
            exact ⟨rfl, hbF⟩
          · obtain ⟨q, rfl⟩ : ∃ q, j = q + 1 := ⟨j - 1, by omega⟩
            obtain ⟨b, off, y, hA, hy, hc⟩ := hgl.rd.get (k := q) (by omega)
            subst hA
            have hc0 := range_below (B := 0) hc hbq 0 (.int .u8 y.toNat) rfl
            simp only [byteE, Nat.mul_one, Nat.add_zero] at hc0
            have HN : Hid ((r.drop q).reverse = (r.drop (q + 1)).reverse ++ [y]) := Lib.hid (by rw [drop_of_get hy, List.reverse_cons])
            have hlo := hglq.lt
            have hbqs := hbq.size
            clear hc hy
            go_wp2_with (at_builtin; refine wpList_pushO byteE rfl _ _ 54 rfl wA.heap.size 5 i0 _ 1 Tryd.underlying54 hi HZ.out.1 HZ.out.2 hz2 rfl A2 z c2 ((r.drop (q + 1)).reverse) y rfl (hglq.alloc _) wr.heap.size rfl (range_new _ _ _) (by omega) (by decide) (by first | (simp; done) | (simp; omega)) ?_; intro A' c' w2 hgl' ht' _)
            have hb' := Below.touch (hbq.alloc hbqs (.cells #[.int .u8 y.toNat] 5)) ht' (fun k hk => (hlo k hk).1) (by first | (simp; done) | (simp; omega))
            rw [← HN.out] at hgl'
            first | (refine ⟨⟨q, z + 1, A', c', by omega, by omega, by go_num, rfl, hgl', hb'⟩, ?_⟩; (first | (simp [intOf]; done) | (simp [intOf]; omega))) | (go_roundw; (case rel => first | exact ⟨q, z + 1, A', c', by omega, by omega, by go_num, rfl, hgl', hb'⟩ | ((try refine ⟨trivial, ?_⟩); (repeat apply Exists.intro); exact ⟨⟨q, z + 1, A', c', by omega, by omega, by go_num, rfl, hgl', hb'⟩, rfl⟩)); (case measure => (first | (simp [intOf]; done) | (simp [intOf]; omega))))
      · have hmi : ((m : Int) != 0) = true := by rw [bne_iff_ne]; omega
        have hk : k ≤ 18 := by have := hgl.len; have := HD.out.short hm0 hn; omega
        have HN := Lib.hid (HD.out.step hm0)
        have hlo := hgl.lt
        have hbs := hb.size
        have h10 : m % 10 < 10 := Nat.mod_lt _ (by omega)
        have hu8 : ((UInt8.ofNat (48 + m % 10)).toNat : Int) = 48 + (m : Int) % 10 := by
          rw [UInt8.toNat_ofNat']
          omega
        go_wp2_with (at_builtin; refine wpList_pushO byteE rfl _ _ 54 rfl w.heap.size 5 i0 _ 1 Tryd.underlying54 hi HZ.out.1 HZ.out.2 hz2 rfl A k c r (UInt8.ofNat (48 + m % 10)) rfl (hgl.alloc _) wr.heap.size rfl (by rw [show byteE.cells (UInt8.ofNat (48 + m % 10)) = [.int .u8 (48 + (m : Int) % 10)] by rw [← hu8]; rfl]; exact range_new _ _ _) (by omega) (by decide) (by first | (simp; done) | (simp; omega)) ?_; intro A' c' w2 hgl' ht' _)
        have hb' := Below.touch (hb.alloc hbs (.cells #[.int .u8 (48 + (m : Int) % 10)] 5)) ht' (fun k hk => (hlo k hk).1) (by first | (simp; done) | (simp; omega))
        first | (refine ⟨⟨m / 10, k + 1, r ++ [UInt8.ofNat (48 + m % 10)], A', c', by omega, by go_num, rfl, hgl', HN, hb'⟩, ?_⟩; (simp [intOf]; omega)) | (go_roundw; (case rel => first | exact ⟨m / 10, k + 1, r ++ [UInt8.ofNat (48 + m % 10)], A', c', by omega, by go_num, rfl, hgl', HN, hb'⟩ | ((try refine ⟨trivial, ?_⟩); (repeat apply Exists.intro); exact ⟨⟨m / 10, k + 1, r ++ [UInt8.ofNat (48 + m % 10)], A', c', by omega, by go_num, rfl, hgl', HN, hb'⟩, rfl⟩)); (case measure => (simp [intOf]; omega)))

end Go.Proofs.YtndbppplkfpgnaaDoor

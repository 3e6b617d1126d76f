/- Lists of quotes: the sum of their prices, the cheapest one; their texts read back. -/
import Derived.Test.YtbfmfiaenihmoaaGreatDoorRows
import Derived.Test.YtbfmfiaenihmoaaGreatDoorPriceF
import Derived.Test.YtbfmfiaenihmoaaGreatDoorDrawQ
import Derived.Test.YtbfmfiaenihmoaaGreatDoorWords3
namespace Go.Proofs.YtbfmfiaenihmoaaGreatDoor
set_option linter.unusedVariables false
set_option linter.unusedSimpArgs false
set_option linter.unusedSectionVars false
open Go.RowKit

def sumQ : List DQuote → Int
  | [] => 0
  | x :: r => priceQ x + sumQ r
theorem sumQ_app (a b : List DQuote) : sumQ (a ++ b) = sumQ a + sumQ b := by
  induction a with
  | nil => simp [sumQ]
  | cons x r ih => simp only [List.cons_append, sumQ, ih]; omega
theorem sumQ_take {l : List DQuote} {k : Nat} {x : DQuote} (h : l[k]? = some x) : sumQ (l.take (k + 1)) = sumQ (l.take k) + priceQ x := by
  rw [take_of_get h, sumQ_app]; simp [sumQ]
theorem sumQ_range {l : List DQuote} (h : ∀ x ∈ l, QB x) : 0 ≤ sumQ l ∧ sumQ l ≤ 180000001 * l.length := by
  induction l with
  | nil => simp [sumQ]
  | cons x r ih =>
    have h1 := (h x (List.mem_cons_self ..)).price
    have h2 := ih fun y hy => h y (List.mem_cons_of_mem _ hy)
    rw [sumQ, List.length_cons]
    omega
theorem OkQuotes.qb {l : List DQuote} (h : OkQuotes l) : ∀ x ∈ l, QB x := fun x hx => QB.of (h.ok x hx)
set_option maxRecDepth 100000 in
set_option maxHeartbeats 2000000 in
theorem i_TotalPrice (A : Option Addr) (n c : Nat) (l : List DQuote) (w : World) (hr : Rd quoteE w A n l) (hok : OkQuotes l) :
    Calls Tryz.prog 7 #[.slice A n c] w fun e w' => e = .returned (.tuple #[.int .i64 (sumQ l), .int .i64 0]) ∧ Below w.heap.size w w' := by
  have Hl := Lib.hid hr.1
  have hn : n ≤ 12 := by have := hok.few; have := hr.1; omega
  have HO := Lib.hid hok
  have hV := fun W hb => i_ValidQuotes_yes A n c l W (hr.below hb) hok
  clear hok
  go_enter Tryz.func7, Tryz.ntmps7
  go_wp2_with fail
  refine (hV _ (Below.refl _ _)).mono ?_
  rintro e w1 ⟨rfl, hb1⟩
  have HB := Lib.hid hb1
  clear hV hb1
  go_wp2_with fail
  go_loopw [4, 12] (fun v i wr => ∃ k : Nat, k ≤ n ∧ i = .int .i64 k ∧ v = .int .i64 (sumQ (l.take k)) ∧ Below w.heap.size w wr) (fun _ i _ => n - (intOf i).toNat)
  case atStart => exact ⟨0, Nat.zero_le _, rfl, by simp [sumQ], HB.out⟩
  case round =>
    obtain ⟨k, hk, rfl, rfl, hb⟩ := hrel
    clear HB
    by_cases hlt : k < n
    · obtain ⟨b, off, rfl, hcs⟩ := hr.2 (by omega)
      obtain ⟨x, hx⟩ : ∃ x, l[k]? = some x := ⟨_, List.getElem?_eq_getElem (by have := Hl.out; omega)⟩
      have hcr := range_below (B := 0) (hcs k x hx) hb
      have hc0 := hcr 0 _ rfl
      have hc1 := hcr 1 _ rfl
      have hc2 := hcr 2 _ rfl
      have hc3 := hcr 3 _ rfl
      have hc4 := hcr 4 _ rfl
      simp only [quoteE, Nat.add_zero] at hc0 hc1 hc2 hc3 hc4
      have hP := fun W => i_price x W (HO.out.qb x (mem_of_get hx))
      have hpr := (HO.out.qb x (mem_of_get hx)).price
      have hsr := sumQ_range (l := l.take k) fun y hy => HO.out.qb y (List.mem_of_mem_take hy)
      rw [List.length_take] at hsr
      have HS := Lib.hid (sumQ_take hx)
      obtain ⟨P, hPP⟩ : ∃ P, priceQ x = P := ⟨_, rfl⟩
      obtain ⟨S, hSS⟩ : ∃ S, sumQ (l.take k) = S := ⟨_, rfl⟩
      rw [hPP] at hP hpr HS
      rw [hSS] at hsr HS ⊢
      have hmin : min k l.length ≤ 12 := by have := Hl.out; omega
      have hs1 : 0 ≤ S ∧ S ≤ 2160000012 := by omega
      clear hcr hx hcs hPP hSS hsr hmin
      have hcx := range_new wr #[.string x.fId, .int .i64 x.fHours, .int .i64 x.fRate, .int .i64 x.fMaterial, .int .i64 x.fMargin] 32
      have hb0 : Below w.heap.size w (wr.alloc (.cells #[.string x.fId, .int .i64 x.fHours, .int .i64 x.fRate, .int .i64 x.fMaterial, .int .i64 x.fMargin] 32)) := hb.alloc hb.size _
      obtain ⟨W0, hW0⟩ : ∃ W0, wr.alloc (.cells #[.string x.fId, .int .i64 x.fHours, .int .i64 x.fRate, .int .i64 x.fMaterial, .int .i64 x.fMargin] 32) = W0 := ⟨_, rfl⟩
      rw [hW0] at hb0 hcx
      have hx0 := hcx 0 _ rfl
      have hx1 := hcx 1 _ rfl
      have hx2 := hcx 2 _ rfl
      have hx3 := hcx 3 _ rfl
      have hx4 := hcx 4 _ rfl
      simp only [Nat.zero_add] at hx0 hx1 hx2 hx3 hx4
      clear hcx
      go_wp2_with fail
      try rw [hW0]
      clear hW0
      refine (hP _).mono ?_
      rintro e w3 ⟨rfl, hb3⟩
      have hbN := hb0.trans (hb3.mono hb0.size)
      clear hP hb3
      go_wp2
      first | (refine ⟨⟨k + 1, by omega, by go_num, by rw [HS.out], hbN⟩, ?_⟩; (simp [intOf]; omega)) | (go_roundw; (case rel => first | exact ⟨k + 1, by omega, by go_num, by rw [HS.out], hbN⟩ | ((try refine ⟨trivial, ?_⟩); (repeat apply Exists.intro); exact ⟨⟨k + 1, by omega, by go_num, by rw [HS.out], hbN⟩, rfl⟩)); (case measure => (simp [intOf]; omega)))
    · obtain rfl : k = n := by omega
      have E : Hid (sumQ (l.take k) = sumQ l) := Lib.hid (by rw [List.take_of_length_le (by have := Hl.out; omega)])
      rw [E.out]
      go_wp2
      go_ret2
      exact ⟨rfl, hb⟩

def CheapR (l : List DQuote) (w : World) (e : Ending) (w' : World) : Prop :=
  ((l = [] ∧ e = .returned (.tuple #[.int .i64 0, .int .i64 0, .int .i64 3])) ∨
    ∃ (q : Nat) (y : DQuote), l[q]? = some y ∧ (∀ x ∈ l, priceQ y ≤ priceQ x) ∧ e = .returned (.tuple #[.int .i64 q, .int .i64 (priceQ y), .int .i64 0])) ∧ Below w.heap.size w w'
def LeastTo (l : List DQuote) (k : Nat) (y : DQuote) : Prop := ∀ (j : Nat) (x : DQuote), j < k → l[j]? = some x → priceQ y ≤ priceQ x
theorem LeastTo.keep {l : List DQuote} {k : Nat} {x y : DQuote} (h : LeastTo l k y) (hx : l[k]? = some x) (hle : priceQ y ≤ priceQ x) : LeastTo l (k + 1) y := fun j z hj hz => by
  rcases Nat.lt_or_ge j k with h1 | h1
  · exact h j z h1 hz
  · obtain rfl : j = k := by omega
    rw [hx] at hz
    cases hz
    exact hle
theorem LeastTo.new {l : List DQuote} {k : Nat} {x y : DQuote} (h : LeastTo l k y) (hx : l[k]? = some x) (hlt : priceQ x < priceQ y) : LeastTo l (k + 1) x := fun j z hj hz => by
  rcases Nat.lt_or_ge j k with h1 | h1
  · have := h j z h1 hz; omega
  · obtain rfl : j = k := by omega
    rw [hx] at hz
    cases hz
    exact Int.le_refl _
theorem LeastTo.all {l : List DQuote} {k : Nat} {y : DQuote} (h : LeastTo l k y) (hk : l.length ≤ k) : ∀ x ∈ l, priceQ y ≤ priceQ x := fun x hx => by
  obtain ⟨j, hj⟩ := List.mem_iff_getElem?.1 hx
  exact h j x (by have := (List.getElem?_eq_some_iff.1 hj).1; omega) hj
set_option maxRecDepth 100000 in
set_option maxHeartbeats 4000000 in
theorem i_CheapestQuote (A : Option Addr) (n c : Nat) (l : List DQuote) (w : World) (hr : Rd quoteE w A n l) (hok : OkQuotes l) :
    Calls Tryz.prog 6 #[.slice A n c] w (CheapR l w) := by
  have Hl := Lib.hid hr.1
  have hn : n ≤ 12 := by have := hok.few; have := hr.1; omega
  have HO := Lib.hid hok
  have hV := fun W hb => i_ValidQuotes_yes A n c l W (hr.below hb) hok
  clear hok
  go_enter Tryz.func6, Tryz.ntmps6
  go_wp2_with fail
  refine (hV _ (Below.refl _ _)).mono ?_
  rintro e w1 ⟨rfl, hb1⟩
  have HB := Lib.hid hb1
  clear hV hb1
  by_cases hn0 : n = 0
  · subst hn0
    have E : Hid (l = []) := Lib.hid (List.eq_nil_of_length_eq_zero Hl.out)
    go_wp2
    go_ret3
    exact ⟨.inl ⟨E.out, rfl⟩, HB.out⟩
  have hne : ((n : Int) == 0) = false := by rw [beq_eq_false_iff_ne]; omega
  go_wp2_with fail
  go_loopw [5, 16] (fun v i wr => ∃ (k q : Nat) (y : DQuote), k ≤ n ∧ i = .int .i64 k ∧ v = .int .i64 q ∧ q < n ∧ Hid (l[q]? = some y) ∧ Hid (LeastTo l k y) ∧ Below w.heap.size w wr) (fun _ i _ => n - (intOf i).toNat)
  case atStart =>
    obtain ⟨y, hy⟩ : ∃ y, l[0]? = some y := ⟨_, List.getElem?_eq_getElem (by have := Hl.out; omega)⟩
    exact ⟨0, 0, y, Nat.zero_le _, rfl, rfl, by omega, Lib.hid hy, Lib.hid fun j x hj => by omega, HB.out⟩
  case round =>
    obtain ⟨k, q, y, hk, rfl, rfl, hq, HY, HL, hb⟩ := hrel
    clear HB
    obtain ⟨b, off, rfl, hcs⟩ := hr.2 (by omega)
    have hcy := range_below (B := 0) (hcs q y HY.out) hb
    have hd0 := hcy 0 _ rfl
    have hd1 := hcy 1 _ rfl
    have hd2 := hcy 2 _ rfl
    have hd3 := hcy 3 _ rfl
    have hd4 := hcy 4 _ rfl
    simp only [quoteE, Nat.add_zero] at hd0 hd1 hd2 hd3 hd4
    have HPy : Hid (∀ W, Calls Tryz.prog 19 #[.agg #[.string y.fId, .int .i64 y.fHours, .int .i64 y.fRate, .int .i64 y.fMaterial, .int .i64 y.fMargin]] W fun e w' => e = .returned (.int .i64 (priceQ y)) ∧ Below W.heap.size W w') := Lib.hid fun W => i_price y W (HO.out.qb y (mem_of_get HY.out))
    clear hcy
    by_cases hlt : k < n
    · obtain ⟨x, hx⟩ : ∃ x, l[k]? = some x := ⟨_, List.getElem?_eq_getElem (by have := Hl.out; omega)⟩
      have hcr := range_below (B := 0) (hcs k x hx) hb
      have hc0 := hcr 0 _ rfl
      have hc1 := hcr 1 _ rfl
      have hc2 := hcr 2 _ rfl
      have hc3 := hcr 3 _ rfl
      have hc4 := hcr 4 _ rfl
      simp only [quoteE, Nat.add_zero] at hc0 hc1 hc2 hc3 hc4
      have HPx : Hid (∀ W, Calls Tryz.prog 19 #[.agg #[.string x.fId, .int .i64 x.fHours, .int .i64 x.fRate, .int .i64 x.fMaterial, .int .i64 x.fMargin]] W fun e w' => e = .returned (.int .i64 (priceQ x)) ∧ Below W.heap.size W w') := Lib.hid fun W => i_price x W (HO.out.qb x (mem_of_get hx))
      have HK := Lib.hid (fun hle => HL.out.keep hx hle)
      have HN := Lib.hid (fun hlt => HL.out.new hx hlt)
      have HX := Lib.hid hx
      obtain ⟨P, hPP⟩ : ∃ P, priceQ x = P := ⟨_, rfl⟩
      obtain ⟨R, hRR⟩ : ∃ R, priceQ y = R := ⟨_, rfl⟩
      rw [hPP] at HPx HK HN
      rw [hRR] at HPy HK HN
      clear hcr hx hcs hPP hRR HL
      have hcx := range_new wr #[.string x.fId, .int .i64 x.fHours, .int .i64 x.fRate, .int .i64 x.fMaterial, .int .i64 x.fMargin] 32
      have hb0 : Below w.heap.size w (wr.alloc (.cells #[.string x.fId, .int .i64 x.fHours, .int .i64 x.fRate, .int .i64 x.fMaterial, .int .i64 x.fMargin] 32)) := hb.alloc hb.size _
      have hba : Below wr.heap.size wr (wr.alloc (.cells #[.string x.fId, .int .i64 x.fHours, .int .i64 x.fRate, .int .i64 x.fMaterial, .int .i64 x.fMargin] 32)) := (Below.refl _ _).alloc (Nat.le_refl _) _
      obtain ⟨W0, hW0⟩ : ∃ W0, wr.alloc (.cells #[.string x.fId, .int .i64 x.fHours, .int .i64 x.fRate, .int .i64 x.fMaterial, .int .i64 x.fMargin] 32) = W0 := ⟨_, rfl⟩
      rw [hW0] at hb0 hcx hba
      have hx0 := hcx 0 _ rfl
      have hx1 := hcx 1 _ rfl
      have hx2 := hcx 2 _ rfl
      have hx3 := hcx 3 _ rfl
      have hx4 := hcx 4 _ rfl
      simp only [Nat.zero_add] at hx0 hx1 hx2 hx3 hx4
      clear hcx
      go_wp2_with fail
      try rw [hW0]
      replace hd0 := cell_later hba hd0
      replace hd1 := cell_later hba hd1
      replace hd2 := cell_later hba hd2
      replace hd3 := cell_later hba hd3
      replace hd4 := cell_later hba hd4
      clear hW0 hba hc0 hc1 hc2 hc3 hc4
      go_region_held3 (fun w' => (w'.cell? ⟨wr.heap.size, 0, none⟩ = some (.string x.fId) ∧ w'.cell? ⟨wr.heap.size, 1, none⟩ = some (.int .i64 x.fHours) ∧ w'.cell? ⟨wr.heap.size, 2, none⟩ = some (.int .i64 x.fRate) ∧ w'.cell? ⟨wr.heap.size, 3, none⟩ = some (.int .i64 x.fMaterial) ∧ w'.cell? ⟨wr.heap.size, 4, none⟩ = some (.int .i64 x.fMargin)) ∧ (w'.cell? ⟨b, off + q * 5, none⟩ = some (.string y.fId) ∧ w'.cell? ⟨b, off + q * 5 + 1, none⟩ = some (.int .i64 y.fHours) ∧ w'.cell? ⟨b, off + q * 5 + 2, none⟩ = some (.int .i64 y.fRate) ∧ w'.cell? ⟨b, off + q * 5 + 3, none⟩ = some (.int .i64 y.fMaterial) ∧ w'.cell? ⟨b, off + q * 5 + 4, none⟩ = some (.int .i64 y.fMargin)) ∧ Below w.heap.size w w')
        (first | exact ⟨⟨hx0, hx1, hx2, hx3, hx4⟩, ⟨hd0, hd1, hd2, hd3, hd4⟩, hb0.drew⟩
               | (go_split_ands; exact ⟨⟨cell_later hb2 (by assumption), cell_later hb2 (by assumption), cell_later hb2 (by assumption), cell_later hb2 (by assumption), cell_later hb2 (by assumption)⟩, ⟨cell_later hb2 (by assumption), cell_later hb2 (by assumption), cell_later hb2 (by assumption), cell_later hb2 (by assumption), cell_later hb2 (by assumption)⟩, Below.trans (by assumption) (hb2.mono (Below.size (by assumption)))⟩))
        (first | (go_at_call 19; go_split_ands; first | (with_reducible refine (HPx.out _).mono ?_; rintro e w2 ⟨rfl, hb2⟩) | (with_reducible refine (HPy.out _).mono ?_; rintro e w2 ⟨rfl, hb2⟩)))
      rename_i hh
      obtain ⟨_, _, hbE⟩ := hh
      by_cases hpr : P < R
      · have HM := Lib.hid (HN.out hpr)
        clear HK HN
        go_wp2
        first | (refine ⟨⟨k + 1, k, x, by omega, by go_num, rfl, hlt, HX, HM, hbE⟩, ?_⟩; (simp [intOf]; omega)) | (go_roundw; (case rel => first | exact ⟨k + 1, k, x, by omega, by go_num, rfl, hlt, HX, HM, hbE⟩ | ((try refine ⟨trivial, ?_⟩); (repeat apply Exists.intro); exact ⟨⟨k + 1, k, x, by omega, by go_num, rfl, hlt, HX, HM, hbE⟩, rfl⟩)); (case measure => (simp [intOf]; omega)))
      · have HM := Lib.hid (HK.out (by omega))
        clear HK HN
        go_wp2
        first | (refine ⟨⟨k + 1, q, y, by omega, by go_num, rfl, hq, HY, HM, hbE⟩, ?_⟩; (simp [intOf]; omega)) | (go_roundw; (case rel => first | exact ⟨k + 1, q, y, by omega, by go_num, rfl, hq, HY, HM, hbE⟩ | ((try refine ⟨trivial, ?_⟩); (repeat apply Exists.intro); exact ⟨⟨k + 1, q, y, by omega, by go_num, rfl, hq, HY, HM, hbE⟩, rfl⟩)); (case measure => (simp [intOf]; omega)))
    · have E := Lib.hid (HL.out.all (by have := Hl.out; omega))
      have hP := fun W => HPy.out W
      clear HPy HL hcs
      go_wp2_with fail
      refine (hP _).mono ?_
      rintro e w2 ⟨rfl, hb2⟩
      clear hP
      go_wp2
      go_ret3
      exact ⟨.inr ⟨q, y, HY.out, E.out, rfl⟩, hb.trans (hb2.mono hb.size)⟩

end Go.Proofs.YtbfmfiaenihmoaaGreatDoor

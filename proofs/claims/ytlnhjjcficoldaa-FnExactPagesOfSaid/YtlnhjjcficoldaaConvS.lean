/- The law files' helpers on lists of strings: size, copy, equality, marks. -/
import Derived.Test.YtlnhjjcficoldaaRows
import Derived.Test.YtlnhjjcficoldaaMem
namespace Go.Proofs.Ytlnhjjcficoldaa
set_option linter.unusedVariables false
set_option linter.unusedSimpArgs false
set_option linter.unusedSectionVars false
open Go.RowKit

def sumS : List ByteArray → Int
  | [] => 0
  | s :: r => s.size + sumS r

/-- What a size helper hands back: -1, or what is left. -/
def SzR (left tot : Int) (w : World) (e : Ending) (w' : World) : Prop := ∃ r : Int, e = .returned (.int .i64 r) ∧ w = w' ∧ -1 ≤ r ∧ (0 ≤ r → r + tot = left)
theorem SzR.neg {left tot : Int} {w : World} : SzR left tot w (.returned (.int .i64 (-1))) w := ⟨-1, rfl, rfl, by omega, by omega⟩
theorem SzR.ok {left tot r : Int} {w : World} (h0 : 0 ≤ r) (h : r + tot = left) : SzR left tot w (.returned (.int .i64 r)) w := ⟨r, rfl, rfl, by omega, fun _ => h⟩

/-- as SzR, where memory may have been made -/
def SzB (left tot : Int) (w : World) (e : Ending) (w' : World) : Prop := ∃ r : Int, e = .returned (.int .i64 r) ∧ Below w.heap.size w w' ∧ -1 ≤ r ∧ (0 ≤ r → r + tot = left)
theorem SzB.neg {left tot : Int} {w w' : World} (hb : Below w.heap.size w w') : SzB left tot w (.returned (.int .i64 (-1))) w' := ⟨-1, rfl, hb, by omega, by omega⟩
theorem SzB.ok {left tot r : Int} {w w' : World} (hb : Below w.heap.size w w') (h0 : 0 ≤ r) (h : r + tot = left) : SzB left tot w (.returned (.int .i64 r)) w' := ⟨r, rfl, hb, by omega, fun _ => h⟩

theorem sumS_nonneg (l : List ByteArray) : 0 ≤ sumS l := by
  induction l with
  | nil => simp [sumS]
  | cons s r ih => simp only [sumS]; omega
theorem sumS_mem {l : List ByteArray} {s : ByteArray} (h : s ∈ l) : (s.size : Int) ≤ sumS l := by
  induction l with
  | nil => cases h
  | cons x r ih =>
    have h0 := sumS_nonneg r
    simp only [sumS]
    cases List.mem_cons.1 h with
    | inl e => subst e; omega
    | inr e => have := ih e; omega

/-- A list of the call's own. -/
def RetOwn {α : Type} (E : Enc α) (et : TypeId) (l : List α) (n : Nat) (w : World) (e : Ending) (w' : World) : Prop :=
  ∃ A c, e = .returned (.slice A n c) ∧ l.length = n ∧ w'.ownsRow w.heap.size et E.k (.slice A n c) n (l.flatMap E.cells) ∧ Below w.heap.size w w'

/-- It answers b, and nothing old has turned. -/
def RetB (b : Bool) (w : World) (e : Ending) (w' : World) : Prop := e = .returned (.bool b) ∧ Below w.heap.size w w'

/-- the mark of a number: whatever text the helper gives -/
def mtDigits : Nat → Nat → List UInt8
  | 0, _ => []
  | f + 1, k => if k = 0 then [] else mtDigits f (k / 10) ++ [UInt8.ofNat (48 + k % 10)]
theorem mtDigits_zero (f : Nat) : mtDigits f 0 = [] := by cases f <;> rfl
theorem mtDigits_step (f q : Nat) (h : 0 < q) : mtDigits (f + 1) q = mtDigits f (q / 10) ++ [UInt8.ofNat (48 + q % 10)] := by rw [mtDigits, if_neg (by omega)]
def mt (k : Nat) : ByteArray := if k = 0 then ⟨#[109, 48]⟩ else ⟨(109 :: mtDigits k k).toArray⟩


set_option maxHeartbeats 400000 in
theorem l_szStringS (A : Option Addr) (n c : Nat) (ss : List ByteArray) (left : Int) (w : World) (hr : Rd strE w A n ss) (hn : n ≤ maxLen)
    (hs : ∀ s ∈ ss, s.size ≤ maxLen) (h0 : 0 ≤ left) (h1 : left ≤ 1048576) :
    Calls Try.prog 4 #[.slice A n c, .int .i64 left] w (SzR left (sumS ss + n) w) := by
  unfold maxLen at hn hs
  have Hl := Lib.hid hr.1
  have HS := Lib.hid hs; clear hs
  by_cases hlt : left - n < 0
  · go_enter Try.func4, Try.ntmps4
    go_wp2
    go_ret
    exact SzR.neg
  · go_enter Try.func4, Try.ntmps4
    go_wp2
    go_loop [1, 5] (fun t i => ∃ (k : Nat) (l : Int), k ≤ n ∧ 0 ≤ l ∧ l ≤ 1048576 ∧ i = .int .i64 k ∧ t = .int .i64 l ∧ Hid (l = left - n - sumS ss + sumS (ss.drop k))) (fun _ i => n - (intOf i).toNat)
    case atStart => exact ⟨0, left - n, by omega, by omega, by omega, rfl, rfl, Lib.hid (by rw [List.drop_zero]; omega)⟩
    case round =>
      obtain ⟨k, l, hk, hl0, hl1, rfl, rfl, HH⟩ := hrel
      by_cases hkn : k < n
      · obtain ⟨b, off, s, rfl, hks, hc⟩ := hr.get hkn
        have hc0 := hc 0 (.string s) rfl
        simp only [strE, Nat.mul_one, Nat.add_zero] at hc0
        have hz := HS.out s (mem_of_get hks)
        have HD := Lib.hid (drop_of_get hks); clear hks hc
        by_cases hneg : l - s.size < 0
        · go_wp2
          go_ret
          exact SzR.neg
        · go_wp2
          first | (refine ⟨⟨k + 1, l - s.size, by omega, by omega, by omega, by go_num, by go_num, Lib.hid (by rw [HH.out, HD.out, sumS]; omega)⟩, ?_⟩; (simp [intOf]; omega)) | (go_round; (case rel => first | exact ⟨k + 1, l - s.size, by omega, by omega, by omega, by go_num, by go_num, Lib.hid (by rw [HH.out, HD.out, sumS]; omega)⟩ | ((try refine ⟨trivial, ?_⟩); (repeat apply Exists.intro); exact ⟨⟨k + 1, l - s.size, by omega, by omega, by omega, by go_num, by go_num, Lib.hid (by rw [HH.out, HD.out, sumS]; omega)⟩, rfl⟩)); (case measure => (simp [intOf]; omega)))
      · go_wp2
        go_ret
        have hh := HH.out
        rw [List.drop_of_length_le (by have := Hl.out; omega), sumS] at hh
        exact SzR.ok hl0 (by omega)

theorem Try.info_string : (Try.prog.info? 9).map (fun i => (i.zero, i.size, i.bytes)) = some (some (.string ⟨#[]⟩), 1, 16) := by kernel_rfl
set_option maxHeartbeats 400000 in
theorem l_toStringS (A : Option Addr) (n c : Nat) (ss : List ByteArray) (w : World) (hr : Rd strE w A n ss) (hn : n ≤ 1048576) :
    Calls Try.prog 6 #[.slice A n c] w (RetOwn strE 9 ss n w) := by
  have Hl := Lib.hid hr.1
  have hmk := fun W => run_make_row' (P := Try.prog) 22 9 (.string ⟨#[]⟩) 16 Try.underlying22 Try.info_string rfl .i64 .i64 n (by omega) (by omega) W
  go_enter Try.func6, Try.ntmps6
  go_wp2
  go_loopw [4] (fun i wr => ∃ k : Nat, k ≤ n ∧ i = .int .i64 k ∧ Part strE 9 w.heap.size w.heap.size n ss k wr ∧ Below w.heap.size w wr) (fun i _ => n - (intOf i).toNat)
  case atStart => exact ⟨0, Nat.zero_le _, rfl, Part.made1 (x := ⟨#[]⟩) rfl rfl (Nat.le_refl _) (by unfold maxLen; omega), by (repeat (first | exact Below.refl _ _ | assumption | refine Below.drew ?_ | refine Below.alloc ?_ (by first | omega | (simp; done) | (simp; omega) | exact Below.size (by assumption)) _ | refine Below.setCell ?_ (by first | omega | (simp; done) | (simp; omega)) _))⟩
  case round =>
    obtain ⟨k, hk, rfl, hp, hb⟩ := hrel
    by_cases hkn : k < n
    · obtain ⟨b, off, s, rfl, hks, hc⟩ := hr.get hkn
      have hc0 := range_below (B := 0) hc hb 0 (.string s) rfl
      simp only [strE, Nat.mul_one, Nat.add_zero] at hc0
      obtain ⟨u, hu⟩ := hp.cell (j := k) (by simp only [strE]; omega)
      have hf := hp.free k
      have HP := Lib.hid (hp.set1 hks hkn rfl rfl); clear hks hc
      go_wp2
      first | (refine ⟨⟨k + 1, by omega, by go_num, HP.out, hb.setCell (Nat.le_refl _) _⟩, ?_⟩; (simp [intOf]; omega)) | (go_roundw; (case rel => first | exact ⟨k + 1, by omega, by go_num, HP.out, hb.setCell (Nat.le_refl _) _⟩ | ((try refine ⟨trivial, ?_⟩); (repeat apply Exists.intro); exact ⟨⟨k + 1, by omega, by go_num, HP.out, hb.setCell (Nat.le_refl _) _⟩, rfl⟩)); (case measure => (simp [intOf]; omega)))
    · go_wp2
      go_ret
      exact ⟨_, _, rfl, Hl.out, hp.done Hl.out (by omega), hb⟩

set_option maxHeartbeats 400000 in
theorem l_eqStringS (A A' : Option Addr) (n c c' : Nat) (ss : List ByteArray) (w : World) (hr : Rd strE w A n ss) (hr' : Rd strE w A' n ss) (hn : n ≤ maxLen) :
    Calls Try.prog 9 #[.slice A n c, .slice A' n c'] w (RetB true w) := by
  unfold maxLen at hn
  go_enter Try.func9, Try.ntmps9
  go_wp2
  go_loopw [5] (fun i wr => ∃ k : Nat, k ≤ n ∧ i = .int .i64 k ∧ Below w.heap.size w wr) (fun i _ => n - (intOf i).toNat)
  case atStart => exact ⟨0, Nat.zero_le _, rfl, by (repeat (first | exact Below.refl _ _ | assumption | refine Below.drew ?_ | refine Below.alloc ?_ (by first | omega | (simp; done) | (simp; omega) | exact Below.size (by assumption)) _ | refine Below.setCell ?_ (by first | omega | (simp; done) | (simp; omega)) _))⟩
  case round =>
    obtain ⟨k, hk, rfl, hb⟩ := hrel
    by_cases hkn : k < n
    · obtain ⟨b, off, s, rfl, hks, hc⟩ := hr.get hkn
      obtain ⟨b', off', s', rfl, hks', hc'⟩ := hr'.get hkn
      obtain rfl : s = s' := Option.some.inj (hks.symm.trans hks')
      have hc0 := range_below (B := 0) hc hb 0 (.string s) rfl
      have hc0' := range_below (B := 0) hc' hb 0 (.string s) rfl
      simp only [strE, Nat.mul_one, Nat.add_zero] at hc0 hc0'
      clear hc hc' hks hks'
      go_wp2
      go_quiet (fail)
      go_wp2
      first | (refine ⟨⟨k + 1, by omega, by go_num, below_drewN hb _⟩, ?_⟩; (simp [intOf]; omega)) | (go_roundw; (case rel => first | exact ⟨k + 1, by omega, by go_num, below_drewN hb _⟩ | ((try refine ⟨trivial, ?_⟩); (repeat apply Exists.intro); exact ⟨⟨k + 1, by omega, by go_num, below_drewN hb _⟩, rfl⟩)); (case measure => (simp [intOf]; omega)))
    · go_wp2
      go_ret
      exact ⟨rfl, hb⟩

theorem one_byte (n : Int) (W : World) : (convert 41 9 (.slice (some ⟨W.heap.size, 0, none⟩) 1 1)).run Try.prog (W.alloc (.cells #[.int .u8 n] 5)) = .ok (.string ⟨#[UInt8.ofNat n.toNat]⟩) (W.alloc (.cells #[.int .u8 n] 5)) :=
  run_convert_bytes_arg (P := Try.prog) _ 41 5 Try.underlying41 Try.underlying5 _ 0 1 1 [n] rfl (fun i hi => by
    obtain rfl : i = 0 := by omega
    rw [cell_of_row _ _ _ #[.int .u8 n] 5 (0, 0) (heap_alloc_new W _)]
    rfl) 9 Try.underlying9
set_option maxHeartbeats 400000 in
theorem l_markText (k : Nat) (w : World) (hk : k ≤ 1099511627776) :
    Calls Try.prog 20 #[.int .i64 k] w fun e w' => e = .returned (.string (mt k)) ∧ Below w.heap.size w w' := by
  by_cases h0 : k = 0
  · subst h0
    go_enter Try.func20, Try.ntmps20
    go_wp2
    go_ret
    exact ⟨rfl, by (repeat (first | exact Below.refl _ _ | assumption | refine Below.drew ?_ | refine Below.alloc ?_ (by first | omega | (simp; done) | (simp; omega) | exact Below.size (by assumption)) _ | refine Below.setCell ?_ (by first | omega | (simp; done) | (simp; omega)) _))⟩
  · have E : Hid (mt k = ⟨(109 :: mtDigits k k).toArray⟩) := Lib.hid (by unfold mt; rw [if_neg h0])
    have hpos : (0 : Int) < k := by omega
    go_enter Try.func20, Try.ntmps20
    go_wp2
    go_loopw [0, 3] (fun i t wr => ∃ (f q : Nat) (T : ByteArray), q ≤ f ∧ T.size + q ≤ k ∧ i = .int .i64 q ∧ t = .string T ∧ Hid (mtDigits k k = mtDigits f q ++ T.data.toList) ∧ Below w.heap.size w wr) (fun i _ _ => (intOf i).toNat)
    case atStart => exact ⟨k, k, ⟨#[]⟩, Nat.le_refl _, Nat.le_of_eq (Nat.zero_add _), rfl, rfl, Lib.hid (List.append_nil _).symm, by (repeat (first | exact Below.refl _ _ | assumption | refine Below.drew ?_ | refine Below.alloc ?_ (by first | omega | (simp; done) | (simp; omega) | exact Below.size (by assumption)) _ | refine Below.setCell ?_ (by first | omega | (simp; done) | (simp; omega)) _))⟩
    case round =>
      obtain ⟨f, q, T, hqf, hT, rfl, rfl, HH, hb⟩ := hrel
      by_cases hq : 0 < q
      · have hcv := one_byte (48 + q % 10) wr
        obtain ⟨D, hD⟩ : ∃ D : ByteArray, D = ⟨#[UInt8.ofNat (48 + (q : Int) % 10).toNat]⟩ := ⟨_, rfl⟩
        rw [← hD] at hcv
        have hD1 : D.size ≤ 1 := by rw [hD]; exact Nat.le_refl 1
        have HDD := Lib.hid hD; clear hD
        obtain ⟨f', rfl⟩ : ∃ f', f = f' + 1 := ⟨f - 1, by omega⟩
        have HS := Lib.hid (mtDigits_step f' q hq)
        have hT1 : T.size ≤ 1099511627776 := by omega
        have hq1 : (0 : Int) < q := by omega
        go_wp2
        clear hcv
        first | (refine ⟨⟨f', q / 10, D ++ T, by omega, by rw [ba_app_size]; omega, by go_num, rfl, Lib.hid (by rw [HH.out, HS.out, ba_app, HDD.out, show (48 + (q : Int) % 10).toNat = 48 + q % 10 from by omega]; simp), hb.alloc hb.size _⟩, ?_⟩; (simp [intOf]; omega)) | (go_roundw; (case rel => first | exact ⟨f', q / 10, D ++ T, by omega, by rw [ba_app_size]; omega, by go_num, rfl, Lib.hid (by rw [HH.out, HS.out, ba_app, HDD.out, show (48 + (q : Int) % 10).toNat = 48 + q % 10 from by omega]; simp), hb.alloc hb.size _⟩ | ((try refine ⟨trivial, ?_⟩); (repeat apply Exists.intro); exact ⟨⟨f', q / 10, D ++ T, by omega, by rw [ba_app_size]; omega, by go_num, rfl, Lib.hid (by rw [HH.out, HS.out, ba_app, HDD.out, show (48 + (q : Int) % 10).toNat = 48 + q % 10 from by omega]; simp), hb.alloc hb.size _⟩, rfl⟩)); (case measure => (simp [intOf]; omega)))
      · obtain rfl : q = 0 := by omega
        go_wp2
        go_ret
        refine ⟨?_, hb⟩
        rw [E.out, HH.out, mtDigits_zero]
        rfl

/-- a mark, whatever number it is of -/
def MarkT (k : Int) (w : World) (e : Ending) (w' : World) : Prop := ∃ T : ByteArray, e = .returned (.string T) ∧ Hid (T = mt k.toNat) ∧ Below w.heap.size w w'
theorem l_markText_at (k : Int) (w : World) (h0 : 0 ≤ k) (hk : k ≤ 1099511627776) : Calls Try.prog 20 #[.int .i64 k] w (MarkT k w) := by
  obtain ⟨m, rfl⟩ := Int.eq_ofNat_of_zero_le h0
  refine (l_markText m w (by omega)).mono fun e w' ⟨he, hb⟩ => ⟨mt m, he, Lib.hid rfl, hb⟩

end Go.Proofs.Ytlnhjjcficoldaa

/- The law files' helpers on lists of strings: size, copy, equality, marks. -/
import Derived.Test.YtfabijhilfjkcaaRows
import Derived.Test.YtfabijhilfjkcaaMem
namespace Go.Proofs.Ytfabijhilfjkcaa
set_option linter.unusedVariables false
set_option linter.unusedSimpArgs false
set_option linter.unusedSectionVars false
open Go.RowKit

def sumS : List ByteArray → Int
  | [] => 0
  | s :: r => s.size + sumS r

/-- What a size helper hands back: -1, or what is left. -/
def SzR (left tot : Int) (w : World) (e : Ending) (w' : World) : Prop := ∃ r : Int, e = .returned (.int .i64 r) ∧ w = w' ∧ -1 ≤ r ∧ (0 ≤ r → r + tot = left)
theorem SzR.neg {left tot : Int} {w : World} : SzR left tot w (.returned (.int .i64 (-1))) w := ⟨-1, rfl, rfl, by omega, by omega⟩
theorem SzR.ok {left tot r : Int} {w : World} (h0 : 0 ≤ r) (h : r + tot = left) : SzR left tot w (.returned (.int .i64 r)) w := ⟨r, rfl, rfl, by omega, fun _ => h⟩

/-- as SzR, where memory may have been made -/
def SzB (left tot : Int) (w : World) (e : Ending) (w' : World) : Prop := ∃ r : Int, e = .returned (.int .i64 r) ∧ Below w.heap.size w w' ∧ -1 ≤ r ∧ (0 ≤ r → r + tot = left)
theorem SzB.neg {left tot : Int} {w w' : World} (hb : Below w.heap.size w w') : SzB left tot w (.returned (.int .i64 (-1))) w' := ⟨-1, rfl, hb, by omega, by omega⟩
theorem SzB.ok {left tot r : Int} {w w' : World} (hb : Below w.heap.size w w') (h0 : 0 ≤ r) (h : r + tot = left) : SzB left tot w (.returned (.int .i64 r)) w' := ⟨r, rfl, hb, by omega, fun _ => h⟩

theorem sumS_nonneg (l : List ByteArray) : 0 ≤ sumS l := by
  induction l with
  | nil => simp [sumS]
  | cons s r ih => simp only [sumS]; omega
theorem sumS_mem {l : List ByteArray} {s : ByteArray} (h : s ∈ l) : (s.size : Int) ≤ sumS l := by
  induction l with
  | nil => cases h
  | cons x r ih =>
    have h0 := sumS_nonneg r
    simp only [sumS]
    cases List.mem_cons.1 h with
    | inl e => subst e; omega
    | inr e => have := ih e; omega

/-- A list of the call's own. -/
def RetOwn {α : Type} (E : Enc α) (et : TypeId) (l : List α) (n : Nat) (w : World) (e : Ending) (w' : World) : Prop :=
  ∃ A c, e = .returned (.slice A n c) ∧ l.length = n ∧ w'.ownsRow w.heap.size et E.k (.slice A n c) n (l.flatMap E.cells) ∧ Below w.heap.size w w'

/-- It answers b, and nothing old has turned. -/
def RetB (b : Bool) (w : World) (e : Ending) (w' : World) : Prop := e = .returned (.bool b) ∧ Below w.heap.size w w'

/-- the mark of a number: whatever text the helper gives -/
def mtDigits : Nat → Nat → List UInt8
  | 0, _ => []
  | f + 1, k => if k = 0 then [] else mtDigits f (k / 10) ++ [UInt8.ofNat (48 + k % 10)]
theorem mtDigits_zero (f : Nat) : mtDigits f 0 = [] := by cases f <;> rfl
theorem mtDigits_step (f q : Nat) (h : 0 < q) : mtDigits (f + 1) q = mtDigits f (q / 10) ++ [UInt8.ofNat (48 + q % 10)] := by rw [mtDigits, if_neg (by omega)]
def mt (k : Nat) : ByteArray := if k = 0 then ⟨#[109, 48]⟩ else ⟨(109 :: mtDigits k k).toArray⟩


theorem one_byte (n : Int) (W : World) : (convert 69 9 (.slice (some ⟨W.heap.size, 0, none⟩) 1 1)).run Try.prog (W.alloc (.cells #[.int .u8 n] 5)) = .ok (.string ⟨#[UInt8.ofNat n.toNat]⟩) (W.alloc (.cells #[.int .u8 n] 5)) :=
  run_convert_bytes_arg (P := Try.prog) _ 69 5 Try.underlying69 Try.underlying5 _ 0 1 1 [n] rfl (fun i hi => by
    obtain rfl : i = 0 := by omega
    rw [cell_of_row _ _ _ #[.int .u8 n] 5 (0, 0) (heap_alloc_new W _)]
    rfl) 9 Try.underlying9
set_option maxHeartbeats 400000 in
theorem l_markText (k : Nat) (w : World) (hk : k ≤ 1099511627776) :
    Calls Try.prog 28 #[.int .i64 k] w fun e w' => e = .returned (.string (mt k)) ∧ Below w.heap.size w w' := by
  by_cases h0 : k = 0
  · subst h0
    go_enter Try.func28, Try.ntmps28
    go_wp2
    go_ret
    exact ⟨rfl, by (repeat (first | exact Below.refl _ _ | assumption | refine Below.drew ?_ | refine Below.alloc ?_ (by first | omega | (simp; done) | (simp; omega) | exact Below.size (by assumption)) _ | refine Below.setCell ?_ (by first | omega | (simp; done) | (simp; omega)) _))⟩
  · have E : Hid (mt k = ⟨(109 :: mtDigits k k).toArray⟩) := Lib.hid (by unfold mt; rw [if_neg h0])
    have hpos : (0 : Int) < k := by omega
    go_enter Try.func28, Try.ntmps28
    go_wp2
    go_loopw [0, 3] (fun i t wr => ∃ (f q : Nat) (T : ByteArray), q ≤ f ∧ T.size + q ≤ k ∧ i = .int .i64 q ∧ t = .string T ∧ Hid (mtDigits k k = mtDigits f q ++ T.data.toList) ∧ Below w.heap.size w wr) (fun i _ _ => (intOf i).toNat)
    case atStart => exact ⟨k, k, ⟨#[]⟩, Nat.le_refl _, Nat.le_of_eq (Nat.zero_add _), rfl, rfl, Lib.hid (List.append_nil _).symm, by (repeat (first | exact Below.refl _ _ | assumption | refine Below.drew ?_ | refine Below.alloc ?_ (by first | omega | (simp; done) | (simp; omega) | exact Below.size (by assumption)) _ | refine Below.setCell ?_ (by first | omega | (simp; done) | (simp; omega)) _))⟩
    case round =>
      obtain ⟨f, q, T, hqf, hT, rfl, rfl, HH, hb⟩ := hrel
      by_cases hq : 0 < q
      · have hcv := one_byte (48 + q % 10) wr
        obtain ⟨D, hD⟩ : ∃ D : ByteArray, D = ⟨#[UInt8.ofNat (48 + (q : Int) % 10).toNat]⟩ := ⟨_, rfl⟩
        rw [← hD] at hcv
        have hD1 : D.size ≤ 1 := by rw [hD]; exact Nat.le_refl 1
        have HDD := Lib.hid hD; clear hD
        obtain ⟨f', rfl⟩ : ∃ f', f = f' + 1 := ⟨f - 1, by omega⟩
        have HS := Lib.hid (mtDigits_step f' q hq)
        have hT1 : T.size ≤ 1099511627776 := by omega
        have hq1 : (0 : Int) < q := by omega
        go_wp2
        clear hcv
        first | (refine ⟨⟨f', q / 10, D ++ T, by omega, by rw [ba_app_size]; omega, by go_num, rfl, Lib.hid (by rw [HH.out, HS.out, ba_app, HDD.out, show (48 + (q : Int) % 10).toNat = 48 + q % 10 from by omega]; simp), hb.alloc hb.size _⟩, ?_⟩; (simp [intOf]; omega)) | (go_roundw; (case rel => first | exact ⟨f', q / 10, D ++ T, by omega, by rw [ba_app_size]; omega, by go_num, rfl, Lib.hid (by rw [HH.out, HS.out, ba_app, HDD.out, show (48 + (q : Int) % 10).toNat = 48 + q % 10 from by omega]; simp), hb.alloc hb.size _⟩ | ((try refine ⟨trivial, ?_⟩); (repeat apply Exists.intro); exact ⟨⟨f', q / 10, D ++ T, by omega, by rw [ba_app_size]; omega, by go_num, rfl, Lib.hid (by rw [HH.out, HS.out, ba_app, HDD.out, show (48 + (q : Int) % 10).toNat = 48 + q % 10 from by omega]; simp), hb.alloc hb.size _⟩, rfl⟩)); (case measure => (simp [intOf]; omega)))
      · obtain rfl : q = 0 := by omega
        go_wp2
        go_ret
        refine ⟨?_, hb⟩
        rw [E.out, HH.out, mtDigits_zero]
        rfl

/-- a mark, whatever number it is of -/
def MarkT (k : Int) (w : World) (e : Ending) (w' : World) : Prop := ∃ T : ByteArray, e = .returned (.string T) ∧ Hid (T = mt k.toNat) ∧ Below w.heap.size w w'
theorem l_markText_at (k : Int) (w : World) (h0 : 0 ≤ k) (hk : k ≤ 1099511627776) : Calls Try.prog 28 #[.int .i64 k] w (MarkT k w) := by
  obtain ⟨m, rfl⟩ := Int.eq_ofNat_of_zero_le h0
  refine (l_markText m w (by omega)).mono fun e w' ⟨he, hb⟩ => ⟨mt m, he, Lib.hid rfl, hb⟩

end Go.Proofs.Ytfabijhilfjkcaa

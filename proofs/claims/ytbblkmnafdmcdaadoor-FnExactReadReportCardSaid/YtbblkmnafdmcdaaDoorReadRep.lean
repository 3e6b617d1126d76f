/- Reading a report. -/
import Derived.Test.YtbblkmnafdmcdaaDoorRows
import Derived.Test.YtbblkmnafdmcdaaDoorShelf
import Derived.Test.YtbblkmnafdmcdaaDoorRep
import Derived.Test.YtbblkmnafdmcdaaDoorArr
import Derived.Test.YtbblkmnafdmcdaaDoorSReads
import Derived.Test.YtbblkmnafdmcdaaDoorIReads
import Derived.Test.YtbblkmnafdmcdaaDoorSList
import Derived.Test.YtbblkmnafdmcdaaDoorReportLaw
namespace Go.Proofs.YtbblkmnafdmcdaaDoor
set_option linter.unusedVariables false
set_option linter.unusedSimpArgs false
set_option linter.unusedSectionVars false
open Go.RowKit

def repO (s : ByteArray) : Option (List ByteArray) := match linesOf s with
  | some L => if repB L then some L else none
  | none => none
def repV (s : ByteArray) : List ByteArray := (repO s).getD []
def repOk (s : ByteArray) : Bool := (repO s).isSome
/-- what a function that returns a list and whether it is good leaves -/
def RetLB {α : Type} (E : Enc α) (et : TypeId) (l : List α) (b : Bool) (w : World) (e : Ending) (w' : World) : Prop :=
  ∃ A n c, l.length = n ∧ n ≤ 4194304 ∧ w'.ownsRow w.heap.size et E.k (.slice A n c) n (l.flatMap E.cells) ∧ e = .returned (.tuple #[.slice A n c, .bool b]) ∧ Below w.heap.size w w'
theorem RetLB.nil {α : Type} {E : Enc α} {et : TypeId} {l : List α} {b b' : Bool} {w w' : World} (hl : l = []) (hc : b = b') (hb : Below w.heap.size w w') :
    RetLB E et l b w (.returned (.tuple #[.slice none 0 0, .bool b'])) w' := by
  subst hl hc
  exact ⟨none, 0, 0, rfl, by omega, ⟨by simp, .inl ⟨rfl, rfl⟩⟩, rfl, hb⟩
theorem RetLB.mk {α : Type} {E : Enc α} {et : TypeId} {l m : List α} {b b' : Bool} {A : Option Addr} {n c : Nat} {w w' : World} (hg : GL E et w.heap.size w' (.slice A n c) m) (hn : n ≤ 4194304) (hl : l = m) (hc : b = b') (hb : Below w.heap.size w w') :
    RetLB E et l b w (.returned (.tuple #[.slice A n c, .bool b'])) w' := by
  subst hl hc
  exact ⟨A, n, c, hg.own.1, hn, hg.own.2, rfl, hb⟩
theorem empty_beq {p : ByteArray} (h : p.data.toList ≠ []) : (p.toList == []) = false := by rw [ByteArray.toList_eq, beq_eq_false_iff_ne]; exact h
theorem cuts_size {c : UInt8} {s x : ByteArray} (h : x ∈ cutsB c s) : x.size ≤ s.size := by
  obtain ⟨j, hj⟩ := List.mem_iff_getElem?.1 h
  exact piece_size hj

set_option maxHeartbeats 2000000 in
theorem S_ReadReport (s : ByteArray) (w : World) (hs : s.size ≤ 1048576) :
    Calls Tryd.prog 5 #[.string s] w (RetLB strE 9 (repV s) (repOk s) w) := by
  obtain ⟨i0, hi, hz0, hz1, hz2⟩ := info_parts Tryd.info_str
  have HZ := Lib.hid (And.intro hz0 hz1); clear hz0 hz1
  go_enter Tryd.func5, Tryd.ntmps5
  go_wp2_with fail
  refine (s_l01Split s 10 _ hs).mono ?_
  rintro e w1 ⟨A, n, c, hl, hn, ho, rfl, hb⟩
  have hgl : GL strE 9 w.heap.size w1 (.slice A n c) (cutsB 10 s) := by unfold GL; rw [hl]; exact ho
  clear ho
  have HSZ := Lib.hid (fun x (hx : x ∈ cutsB 10 s) => cuts_size hx)
  have key : (∃ L, linesOf s = some L ∧ cutsB 10 s = L ++ [⟨#[]⟩]) ∨ (linesOf s = none ∧ ∃ q p, cutsB 10 s = q ++ [p] ∧ p.data.toList ≠ []) := by
    by_cases h0 : s.data.toList = []
    · exact .inl ⟨[], linesOf_nil h0⟩
    · by_cases h1 : [10] <:+ s.data.toList
      · exact .inl ⟨_, linesOf_some h0 h1⟩
      · exact .inr (linesOf_none h0 h1)
  rcases key with ⟨L, hL, hC⟩ | ⟨hL, q, p, hC, hp⟩
  · have HL := Lib.hid hL; clear hL
    obtain ⟨m, rfl⟩ : ∃ m, n = m + 1 := ⟨L.length, by rw [← hl, hC]; simp⟩
    have hLm : L.length = m := by rw [hC] at hl; simp at hl; omega
    have HLm := Lib.hid hLm
    rw [hC] at hgl
    have HS2 : Hid (∀ x ∈ L, x.size ≤ maxLen) := Lib.hid (fun x hx => by have := HSZ.out x (by rw [hC]; exact List.mem_append_left _ hx); unfold maxLen; omega)
    clear HSZ hC hl
    obtain ⟨g, rfl⟩ : ∃ g, A = some ⟨g, 0, none⟩ := by
      rcases hgl.own.2.2 with ⟨e, h0⟩ | ⟨g, cap, cur, e, _⟩
      · cases e
      · cases e; exact ⟨_, rfl⟩
    have hcap := hgl.cap
    have hc0 : w1.cell? ⟨g, m, none⟩ = some (.string ⟨#[]⟩) := by
      have h1 := hgl.range m
      rw [List.drop_left' hLm] at h1
      have h2 := h1 0 (.string ⟨#[]⟩) rfl
      rw [show m * strE.k = m from Nat.mul_one _] at h2
      exact h2
    have hrL : Rd strE w1 (some ⟨g, 0, none⟩) m L := by
      have := hgl.rd.take m (by omega)
      rw [List.take_left' hLm] at this
      exact this
    have hcm1 := hcap.1
    have hcm2 := hcap.2
    unfold maxLen at hcm2
    go_wp2_with fail
    refine (s_l30Ok (some ⟨g, 0, none⟩) m c L _ hrL (by unfold maxLen; omega) HS2.out).mono ?_
    rintro e w2 ⟨rfl, rfl⟩
    rcases hB : repB L with _ | _
    · have E1 : Hid (repV s = []) := Lib.hid (by unfold repV repO; rw [HL.out]; simp [hB])
      have E2 : Hid (repOk s = false) := Lib.hid (by unfold repOk repO; rw [HL.out]; simp [hB])
      clear hB
      go_wp2
      go_ret2
      exact RetLB.nil E1.out E2.out hb
    · have E1 : Hid (repV s = L) := Lib.hid (by unfold repV repO; rw [HL.out]; simp [hB])
      have E2 : Hid (repOk s = true) := Lib.hid (by unfold repOk repO; rw [HL.out]; simp [hB])
      clear hB
      have hz := hb.size
      have hb0 := hb.alloc hz (.cells #[] 9)
      have hgl0 := GL.mk0 (E := strE) (et := 9) hz
      have hr0 := hrL.below (show Below w1.heap.size w1 (w1.alloc (.cells #[] 9)) by (repeat (first | exact Below.refl _ _ | assumption | refine Below.drew ?_ | refine Below.alloc ?_ (by first | omega | (simp; done) | (simp; omega) | exact Below.size (by assumption)) _ | refine Below.setCell ?_ (by first | omega | (simp; done) | (simp; omega)) _)))
      go_wp2_with (at_builtin; refine wpList_pushL strE rfl _ _ 22 rfl w.heap.size 9 i0 _ 16 Tryd.underlying22 hi HZ.out.1 HZ.out.2 hz2 rfl (.slice (some ⟨_, 0, none⟩) 0 0) [] L rfl hgl0 (some ⟨g, 0, none⟩) m c rfl HLm.out (fun h => by cases h) (Rd.src hr0) m (by simp) L (by simp) (by omega) (by decide) w hb0 (by simp; omega) ?_; intro A3 c3 w3 hgl3 _ hb3 hs3)
      go_ret2
      exact RetLB.mk hgl3 (by omega) E1.out E2.out hb3
  · have E1 : Hid (repV s = []) := Lib.hid (by unfold repV repO; rw [hL]; rfl)
    have E2 : Hid (repOk s = false) := Lib.hid (by unfold repOk repO; rw [hL]; rfl)
    clear hL HSZ
    obtain ⟨m, rfl⟩ : ∃ m, n = m + 1 := ⟨q.length, by rw [← hl, hC]; simp⟩
    have hqm : q.length = m := by rw [hC] at hl; simp at hl; omega
    rw [hC] at hgl
    have hpe := empty_beq hp
    clear hC hl hp
    obtain ⟨g, rfl⟩ : ∃ g, A = some ⟨g, 0, none⟩ := by
      rcases hgl.own.2.2 with ⟨e, h0⟩ | ⟨g, cap, cur, e, _⟩
      · cases e
      · cases e; exact ⟨_, rfl⟩
    have hc0 : w1.cell? ⟨g, m, none⟩ = some (.string p) := by
      have h1 := hgl.range m
      rw [List.drop_left' hqm] at h1
      have h2 := h1 0 (.string p) rfl
      rw [show m * strE.k = m from Nat.mul_one _] at h2
      exact h2
    clear hgl hqm
    go_wp2
    go_ret2
    exact RetLB.nil E1.out E2.out hb

set_option maxHeartbeats 2000000 in
theorem I_ReadReport (s : ByteArray) (w : World) (hs : s.size ≤ 1048576) (hL : LibW w) :
    Calls Tryd.prog 6 #[.string s] w (RetLB strE 9 (repV s) (repOk s) w) := by
  by_cases h0 : s.data.toList = []
  · have ht : (s.toList == []) = true := by rw [ByteArray.toList_eq, h0]; rfl
    have E1 : Hid (repV s = []) := Lib.hid (by unfold repV repO; rw [(linesOf_nil h0).1]; rfl)
    have E2 : Hid (repOk s = true) := Lib.hid (by unfold repOk repO; rw [(linesOf_nil h0).1]; rfl)
    clear h0
    go_enter Tryd.func6, Tryd.ntmps6
    go_wp2
    go_ret2
    exact RetLB.nil E1.out E2.out (Below.refl _ _)
  · have ht := empty_beq h0
    have H0 := Lib.hid h0; clear h0
    have hcs := Tryd.strings_CutSuffix s ⟨#[10]⟩ w (by omega)
    rcases h1 : Lib.hasSuffix s.data.toList [10] with _ | _
    · have hb0 : (⟨(Lib.trimSuffix s.data.toList [10]).toArray⟩ : ByteArray) = s := by unfold Lib.trimSuffix; rw [h1]; exact ofL_self s
      have E := linesOf_none H0.out (fun h => by unfold Lib.hasSuffix at h1; rw [List.isSuffixOf_iff_suffix.2 h] at h1; cases h1)
      have E1 : Hid (repV s = []) := Lib.hid (by unfold repV repO; rw [E.1]; rfl)
      have E2 : Hid (repOk s = false) := Lib.hid (by unfold repOk repO; rw [E.1]; rfl)
      have HC : Hid (Calls Tryd.prog 15 #[.string s, .string ⟨#[10]⟩] w fun e w' => e = .returned (.tuple #[.string s, .bool false]) ∧ w' = w) := Lib.hid (by
        rw [show (⟨#[10]⟩ : ByteArray).data.toList = [10] from rfl, hb0, h1] at hcs
        exact hcs)
      clear hcs h1 hb0 E
      go_enter Tryd.func6, Tryd.ntmps6
      go_wp2_with fail
      refine HC.out.mono ?_
      rintro e w1 ⟨rfl, rfl⟩
      go_wp2_with fail
      refine (i_Split s 10 _ hs hL).mono ?_
      rintro e w2 ⟨A, n, c, hl, hn, rfl, hgl, hb⟩
      go_wp2
      go_ret2
      exact RetLB.nil E1.out E2.out hb
    · have hsf : [10] <:+ s.data.toList := List.isSuffixOf_iff_suffix.1 (by unfold Lib.hasSuffix at h1; exact h1)
      have hb0 : (⟨(Lib.trimSuffix s.data.toList [10]).toArray⟩ : ByteArray) = ofL s.data.toList.dropLast := by
        unfold Lib.trimSuffix
        rw [h1, if_pos rfl, List.dropLast_eq_take]
        rfl
      have E := linesOf_some H0.out hsf
      have HC : Hid (Calls Tryd.prog 15 #[.string s, .string ⟨#[10]⟩] w fun e w' => e = .returned (.tuple #[.string (ofL s.data.toList.dropLast), .bool true]) ∧ w' = w) := Lib.hid (by
        rw [show (⟨#[10]⟩ : ByteArray).data.toList = [10] from rfl, hb0, h1] at hcs
        exact hcs)
      obtain ⟨B, hBd⟩ : ∃ B, B = ofL s.data.toList.dropLast := ⟨_, rfl⟩
      have hBs : B.size ≤ 1048576 := by
        rw [hBd, ofL_size, List.length_dropLast]
        have : s.data.toList.length = s.size := by simp
        omega
      rw [← hBd] at HC E
      have EL := Lib.hid E.1
      clear hcs h1 hb0 E hsf hBd
      go_enter Tryd.func6, Tryd.ntmps6
      go_wp2_with fail
      refine HC.out.mono ?_
      rintro e w1 ⟨rfl, rfl⟩
      go_wp2_with fail
      refine (i_Split B 10 _ hBs hL).mono ?_
      rintro e w2 ⟨A, n, c, hl, hn, rfl, hgl, hb⟩
      have HSZ := Lib.hid (fun x (hx : x ∈ cutsB 10 B) => cuts_size hx)
      go_wp2_with fail
      refine (i_ValidReport A n c _ _ hgl.rd (by unfold maxLen; omega) (fun x hx => by have := HSZ.out x hx; unfold maxLen; omega)).mono ?_
      rintro e w3 ⟨rfl, rfl⟩
      rcases hB : repB (cutsB 10 B) with _ | _
      · have E1 : Hid (repV s = []) := Lib.hid (by unfold repV repO; rw [EL.out]; simp [hB])
        have E2 : Hid (repOk s = false) := Lib.hid (by unfold repOk repO; rw [EL.out]; simp [hB])
        clear hB
        go_wp2
        go_ret2
        exact RetLB.nil E1.out E2.out hb
      · have E1 : Hid (repV s = cutsB 10 B) := Lib.hid (by unfold repV repO; rw [EL.out]; simp [hB])
        have E2 : Hid (repOk s = true) := Lib.hid (by unfold repOk repO; rw [EL.out]; simp [hB])
        clear hB
        go_wp2
        go_ret2
        exact RetLB.mk hgl (by omega) E1.out E2.out hb

end Go.Proofs.YtbblkmnafdmcdaaDoor

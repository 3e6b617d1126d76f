/- The lines that hold no block: both sides. -/
import Derived.Test.YtnbeomceiealdaaGreatDoorRows
import Derived.Test.YtnbeomceiealdaaGreatDoorParse
import Derived.Test.YtnbeomceiealdaaGreatDoorTwo
namespace Go.Proofs.YtnbeomceiealdaaGreatDoor
set_option linter.unusedVariables false
set_option linter.unusedSimpArgs false
set_option linter.unusedSectionVars false
open Go.RowKit

theorem cuts_small {s x : ByteArray} (h : x ∈ cutsB 10 s) : x.size ≤ s.size := by
  unfold cutsB at h
  obtain ⟨l, hl, rfl⟩ := List.mem_map.1 h
  rw [ofL_size]
  have := cuts_sub hl
  rw [show s.data.toList = bl s from rfl, bl_size] at this
  exact this
def lineAt (W : List ByteArray) (i : Nat) : ByteArray := W.getD i ⟨#[]⟩
theorem lineAt_get {W : List ByteArray} {i : Nat} {x : ByteArray} (h : W[i]? = some x) : lineAt W i = x := by unfold lineAt; rw [List.getD_eq_getElem?_getD, h]; rfl
theorem codeP_vals (l : List UInt8) : codeP l = 0 ∨ codeP l = 9 ∨ codeP l = 10 := by
  unfold codeP
  split
  · split
    · split
      · exact .inl rfl
      · exact .inr (.inl rfl)
    · exact .inr (.inr rfl)
  · exact .inr (.inl rfl)
def damT (W : List ByteArray) (k : Nat) : List Int := ((List.range k).filter fun i => decide (1 ≤ i ∧ codeP (bl (lineAt W i)) ≠ 0)).map fun (i : Nat) => (i : Int) + 1
theorem dam_out {W : List ByteArray} {k : Nat} {x : ByteArray} (hx : W[k]? = some x) (h : k = 0 ∨ codeP (bl x) = 0) : damT W (k + 1) = damT W k := by
  unfold damT
  rw [List.range_succ, List.filter_append]
  have : (decide (1 ≤ k ∧ codeP (bl (lineAt W k)) ≠ 0)) = false := by
    rw [lineAt_get hx, decide_eq_false_iff_not]
    rintro ⟨h1, h2⟩
    rcases h with h | h
    · omega
    · exact h2 h
  simp only [List.filter_cons, this, Bool.false_eq_true, if_false, List.filter_nil, List.append_nil]
theorem dam_in {W : List ByteArray} {k : Nat} {x : ByteArray} (hx : W[k]? = some x) (h1 : 1 ≤ k) (h : codeP (bl x) ≠ 0) : damT W (k + 1) = damT W k ++ [(k : Int) + 1] := by
  unfold damT
  rw [List.range_succ, List.filter_append]
  have : (decide (1 ≤ k ∧ codeP (bl (lineAt W k)) ≠ 0)) = true := by rw [lineAt_get hx, decide_eq_true_eq]; exact ⟨h1, h⟩
  simp only [List.filter_cons, this, if_true, List.filter_nil, List.map_append, List.map_cons, List.map_nil]
theorem dam_one (W : List ByteArray) : damT W 1 = [] := by simp [damT, List.range_succ]
theorem dam_len (W : List ByteArray) (k : Nat) : (damT W k).length ≤ k := by
  unfold damT
  rw [List.length_map]
  exact Nat.le_trans (List.length_filter_le _ _) (by simp)
def damW (W : List ByteArray) (m : Nat) : List Int := damT W m ++ (if (lineAt W m).toList == [] then [] else [(m : Int) + 1])
def damL (s : ByteArray) : List Int := damW (cutsB 10 s) ((cutsB 10 s).length - 1)
theorem dam_end {s : ByteArray} {m : Nat} {p : ByteArray} (hl : (cutsB 10 s).length = m + 1) (hp : (cutsB 10 s)[m]? = some p) (h : (p.toList == []) = true) : damL s = damT (cutsB 10 s) m := by
  unfold damL damW
  rw [hl, Nat.add_sub_cancel, lineAt_get hp, h]
  simp
theorem dam_more {s : ByteArray} {m : Nat} {p : ByteArray} (hl : (cutsB 10 s).length = m + 1) (hp : (cutsB 10 s)[m]? = some p) (h : (p.toList == []) = false) : damL s = damT (cutsB 10 s) m ++ [(m : Int) + 1] := by
  unfold damL damW
  rw [hl, Nat.add_sub_cancel, lineAt_get hp, h]
  rfl
theorem cuts_last_get (s : ByteArray) : ∃ m p, (cutsB 10 s).length = m + 1 ∧ (cutsB 10 s)[m]? = some p := by
  have h : (cutsB 10 s).length ≠ 0 := by
    unfold cutsB
    rw [List.length_map, cutsL_len]
    omega
  obtain ⟨m, hm⟩ : ∃ m, (cutsB 10 s).length = m + 1 := ⟨(cutsB 10 s).length - 1, by omega⟩
  exact ⟨m, _, hm, List.getElem?_eq_getElem (by omega)⟩

set_option maxHeartbeats 1000000 in
theorem s_l29Lines (s : ByteArray) (w : World) (hs : s.size ≤ 1048576) {m : Nat} {p : ByteArray} (hlen : (cutsB 10 s).length = m + 1) (hp : (cutsB 10 s)[m]? = some p) :
    Calls Tryz.prog 9 #[.string s] w fun e w' => ∃ A c, m ≤ 4194303 ∧ e = .returned (.tuple #[.slice A m c, .bool (p.toList == [])]) ∧ Rd strE w' A m ((cutsB 10 s).take m) ∧ Below w.heap.size w w' := by
  have HP := Lib.hid hp
  clear hp
  obtain ⟨B, hB⟩ : ∃ B, (p.toList == []) = B := ⟨_, rfl⟩
  rw [hB]
  go_enter Tryz.func9, Tryz.ntmps9
  go_wp2_with fail
  refine (s_l01Split s 10 _ hs).mono ?_
  rintro e w1 ⟨A, n, c, hl, hn, ho, rfl, hb⟩
  obtain rfl : n = m + 1 := hl.symm.trans hlen
  have hgl : GL strE 9 w.heap.size w1 (.slice A (m + 1) c) (cutsB 10 s) := by unfold GL; rw [hl]; exact ho
  obtain ⟨g, rfl⟩ := hgl.place (by omega)
  have hcap := hgl.cap
  have hc0 : w1.cell? ⟨g, m, none⟩ = some (.string p) := by
    have h1 := hgl.range m
    rw [drop_of_get HP.out] at h1
    have h2 := h1 0 (.string p) rfl
    rw [show m * strE.k = m from Nat.mul_one _] at h2
    exact h2
  have HR := Lib.hid (hgl.rd.take m (by omega))
  have hcm1 := hcap.1
  have hcm2 := hcap.2
  unfold maxLen at hcm2
  clear ho hgl hl hlen hcap
  have hc0d : ∀ q, (w1.drewN q).cell? ⟨g, m, none⟩ = some (.string p) := fun q => hc0
  have b1 : (0 : Int) ≤ (m : Int) := by omega
  have b2 : (m : Int) ≤ (c : Int) := by omega
  have b3 : (m : Int) < (m : Int) + 1 := by omega
  go_wp2_with fail
  go_quiet (fail)
  go_wp2
  go_ret2
  exact ⟨_, c, by omega, rfl, HR.out, hb.trans (below_drewN (Below.refl _ _) _)⟩

end Go.Proofs.YtnbeomceiealdaaGreatDoor

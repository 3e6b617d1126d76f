/- The program's put. -/
import Derived.Test.YtnbeomceiealdaaDoorRows
import Derived.Test.YtnbeomceiealdaaDoorPutB
namespace Go.Proofs.YtnbeomceiealdaaDoor
set_option linter.unusedVariables false
set_option linter.unusedSimpArgs false
set_option linter.unusedSectionVars false
open Go.RowKit
set_option maxRecDepth 100000

def putCode (l : List DBlock) (b : DBlock) : Int := if fOf l b then 0 else if l.length = 32 then 5 else 0
def putRes (l : List DBlock) (b : DBlock) : List DBlock := if fOf l b then insB l b else if l.length = 32 then [] else insB l b
theorem ins_found {l : List DBlock} {b : DBlock} (hf : fOf l b = true) : insB l b = l.take (pOf l b) ++ [b] ++ l.drop (pOf l b + 1) := by unfold insB qOf; rw [hf]; rfl
theorem ins_new {l : List DBlock} {b : DBlock} (hf : fOf l b = false) : insB l b = l.take (pOf l b) ++ [b] ++ l.drop (pOf l b) := by unfold insB qOf; rw [hf]; rfl

set_option maxHeartbeats 4000000 in
theorem i_put (A : Option Addr) (n c : Nat) (l : List DBlock) (b : DBlock) (w : World) (hr : Rd blockE w A n l) (hn : n ≤ 1048576) (hs : SortedBl l) :
    Calls Tryd.prog 34 #[.slice A n c, .agg #[.string b.fKind, .string b.fName, .string b.fText]] w (RetLC blockE 42 (putRes l b) (putCode l b) w) := by
  have Hl := Lib.hid hr.1
  have HS := Lib.hid hs; clear hs
  obtain ⟨W0, hW0⟩ : ∃ W0, w.alloc (.cells #[.string b.fKind, .string b.fName, .string b.fText] 42) = W0 := ⟨_, rfl⟩
  have hR : W0.rangeAt w.heap.size 0 (blockE.cells b) := by rw [← hW0]; exact range_new w _ _
  have hbw : Below w.heap.size w W0 := by rw [← hW0]; (repeat (first | exact Below.refl _ _ | assumption | refine Below.drew ?_ | refine Below.alloc ?_ (by first | omega | (simp; done) | (simp; omega) | exact Below.size (by assumption)) _ | refine Below.setCell ?_ (by first | omega | (simp; done) | (simp; omega)) _))
  have hsz : W0.heap.size = w.heap.size + 1 := by rw [← hW0]; simp
  have hrW := hr.below hbw
  go_enter Tryd.func34, Tryd.ntmps34
  go_wp2_with fail
  try rw [hW0]
  clear hW0
  refine (i_cloneBlock A n c l _ hrW (by omega)).mono ?_
  rintro e w1 ⟨g, rfl, hgl, hb⟩
  have HR1 := Lib.hid (range_below (B := 0) hR hb)
  have hy0 := HR1.out 0 (.string b.fKind) rfl
  have hy1 := HR1.out 1 (.string b.fName) rfl
  have hy2 := HR1.out 2 (.string b.fText) rfl
  simp only [blockE, Nat.add_zero, Nat.zero_add] at hy0 hy1 hy2
  go_wp2_with fail
  refine (i_blockOf (some ⟨g, 0, none⟩) n n l b.fKind b.fName _ hgl.rd (by omega) HS.out).mono ?_
  rintro e w2 ⟨rfl, hb2⟩
  have hgl2 := (hgl.below hb2).mono hbw.size
  have hy0' := cell_later hb2 hy0
  have hy1' := cell_later hb2 hy1
  have hy2' := cell_later hb2 hy2
  have hbF := hbw.trans (((hb.trans (hb2.mono hb.size)).mono hbw.size))
  have hp1 : posOf l (keyOf b.fKind b.fName) = pOf l b := rfl
  have hpf : foundB l (keyOf b.fKind b.fName) (posOf l (keyOf b.fKind b.fName)) = fOf l b := rfl
  rw [hpf, hp1]
  have hlen := hgl.len
  clear hb2 hb hy0 hy1 hy2 HR1 hpf hp1 hgl hrW
  obtain ⟨p, hp⟩ : ∃ p, pOf l b = p := ⟨_, rfl⟩
  have hple : p ≤ n := by rw [← hp, ← hlen]; exact (HS.out.parts _).le
  have HP := Lib.hid hp
  rw [hp]
  clear hp
  rcases hf : fOf l b with _ | _
  · have HF := Lib.hid hf; clear hf
    by_cases h32 : n = 32
    · have E1 : Hid (putRes l b = []) := Lib.hid (by unfold putRes; rw [HF.out, if_neg (by simp), if_pos (hlen.trans h32)])
      have E2 : Hid (putCode l b = 5) := Lib.hid (by unfold putCode; rw [HF.out, if_neg (by simp), if_pos (hlen.trans h32)])
      have h32' : ((n : Int) == 32) = true := by rw [beq_iff_eq]; omega
      clear h32
      go_wp2
      go_ret2
      exact RetLC.nil E1.out E2.out hbF
    · have E1 : Hid (putRes l b = l.take p ++ [b] ++ l.drop p) := Lib.hid (by unfold putRes; rw [HF.out, if_neg (by simp), if_neg (by rw [hlen]; exact h32), ins_new HF.out, HP.out])
      have E2 : Hid (putCode l b = 0) := Lib.hid (by unfold putCode; rw [HF.out, if_neg (by simp), if_neg (by rw [hlen]; exact h32)])
      have h32' : ((n : Int) == 32) = false := by rw [beq_eq_false_iff_ne]; omega
      clear h32
      have hbs := hbF.size
      go_wp2_with fail
      refine (i_InsertBlock g n p _ w.heap.size l b _ w (hgl2.alloc _) hple (by omega) (range_new' _ _ _ rfl) (hbF.alloc hbF.size _) (by simp; omega)).mono ?_
      rintro e w3 ⟨A3, c3, rfl, hgl3, hb3⟩
      go_wp2
      go_ret2
      exact RetLC.mk hgl3 (by omega) E1.out E2.out hb3
  · have hpn : p < n := by
      obtain ⟨x, hx, _⟩ := found_get (l := l) (key := keyOf b.fKind b.fName) (p := posOf l (keyOf b.fKind b.fName)) hf
      have := (List.getElem?_eq_some_iff.1 hx).1
      have h2 := HP.out
      unfold pOf at h2
      omega
    have E1 : Hid (putRes l b = l.take p ++ [b] ++ l.drop (p + 1)) := Lib.hid (by unfold putRes; rw [hf, if_pos rfl, ins_found hf, HP.out])
    have E2 : Hid (putCode l b = 0) := Lib.hid (by unfold putCode; rw [hf, if_pos rfl])
    clear hf
    obtain ⟨u0, hu0⟩ := Option.isSome_iff_exists.1 (hgl2.cell (j := p * 3) (by show _ < n * 3; omega))
    obtain ⟨u1, hu1⟩ := Option.isSome_iff_exists.1 (hgl2.cell (j := p * 3 + 1) (by show _ < n * 3; omega))
    obtain ⟨u2, hu2⟩ := Option.isSome_iff_exists.1 (hgl2.cell (j := p * 3 + 2) (by show _ < n * 3; omega))
    have hf0 := hgl2.free (p * 3)
    have hf1 := hgl2.free (p * 3 + 1)
    have hf2 := hgl2.free (p * 3 + 2)
    have HG := Lib.hid (hgl2.splice p [b] (by simp; omega))
    have hB3 := below_setCells hgl2.baseLe ([b].flatMap blockE.cells) (p * 3) hbF
    go_wp2
    go_ret2
    exact RetLC.mk HG.out (by omega) E1.out E2.out hB3
def ppRes (l : List DBlock) (b : DBlock) : List DBlock := if blocksB l && blockB b then putRes l b else []
def ppCode (l : List DBlock) (b : DBlock) : Int := if blocksB l && blockB b then putCode l b else 1
theorem ins_len {l : List DBlock} {b : DBlock} (hs : SortedBl l) : (insB l b).length = if fOf l b then l.length else l.length + 1 := by
  have h1 : pOf l b ≤ l.length := (hs.parts _).le
  cases hf : fOf l b with
  | false => rw [ins_new hf]; simp; omega
  | true =>
    have h2 : pOf l b < l.length := by
      obtain ⟨x, hx, _⟩ := found_get (l := l) (key := keyOf b.fKind b.fName) (p := posOf l (keyOf b.fKind b.fName)) hf
      exact (List.getElem?_eq_some_iff.1 hx).1
    rw [ins_found hf]; simp; omega
theorem blocks_len {l : List DBlock} (h : blocksB l = true) : l.length ≤ 32 := by
  unfold blocksB at h
  rw [Bool.and_eq_true, decide_eq_true_eq] at h
  omega
end Go.Proofs.YtnbeomceiealdaaDoor

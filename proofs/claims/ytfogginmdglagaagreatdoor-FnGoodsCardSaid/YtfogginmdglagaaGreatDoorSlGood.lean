/- clone, Delete, Insert at Good; printed by a program of mine. -/
import Derived.Test.YtfogginmdglagaaGreatDoorRows
import Derived.Test.YtfogginmdglagaaGreatDoorCGood
import Derived.Test.YtfogginmdglagaaGreatDoorArr
import Derived.Test.YtfogginmdglagaaGreatDoorIns
namespace Go.Proofs.YtfogginmdglagaaGreatDoor
set_option linter.unusedVariables false
set_option linter.unusedSimpArgs false
set_option linter.unusedSectionVars false
open Go.RowKit

theorem Tryz.inf_Good : (Tryz.prog.info? 27).map (fun i => (i.zero, i.size, i.bytes)) = some (some (.agg #[.string ⟨#[]⟩, .int .i64 0, .int .i64 0, .int .i64 0]), 4, 40) := by kernel_rfl

theorem Tryz.zc_Good : (Builtin.zeroCells (Value.agg #[.string ⟨#[]⟩, .int .i64 0, .int .i64 0, .int .i64 0]).cells 1).toList = [.string ⟨#[]⟩, .int .i64 0, .int .i64 0, .int .i64 0] := by kernel_rfl

set_option maxRecDepth 100000 in
set_option maxHeartbeats 1000000 in
theorem i_cloneGood (A : Option Addr) (n c : Nat) (l : List DGood) (w : World) (hr : Rd goodE w A n l) (hn : n ≤ 4194304) :
    Calls Tryz.prog 30 #[.slice A n c] w (RetClone goodE 27 l n w) := by
  obtain ⟨i0, hi, hz0, hz1, hz2⟩ := info_parts Tryz.inf_Good
  have Hl := Lib.hid hr.1
  obtain ⟨w1, hmk, ho1, hg1⟩ := run_make_own (P := Tryz.prog) w w.heap.size 24 27 i0 _ 4 Tryz.underlying24 hi hz0 hz1 .i64 .i64 n (by rw [hz2]; omega) (by unfold maxLen; omega) (Nat.le_refl _)
  have hb1 : Below w.heap.size w w1 := (Below.refl _ _).grown hg1 (Nat.le_refl _) (fun k hk => by cases hk)
  have hgl0 : GL goodE 27 w.heap.size w1 (.slice (some ⟨w.heap.size, 0, none⟩) 0 n) [] := ho1
  have hr1 := hr.below hb1
  clear ho1 hg1
  go_enter Tryz.func30, Tryz.ntmps30
  go_wp2_with (at_builtin; refine wpList_fitL goodE rfl _ _ 24 rfl w.heap.size 27 i0 Tryz.underlying24 hi hz1 w.heap.size 0 n [] l rfl hgl0 A n c rfl Hl.out (Rd.noneLen hr) (Rd.src hr1) (by omega) w hb1 hb1.size ?_; intro w2 hgl hb2 hs2)
  go_ret
  exact ⟨w.heap.size, by simp, by simpa using hgl, hb2⟩
set_option maxRecDepth 100000 in
set_option maxHeartbeats 2000000 in
theorem i_InsertGood (g n i q base : Nat) (l : List DGood) (y : DGood) (w w0 : World) (hgl : GL goodE 27 base w (.slice (some ⟨g, 0, none⟩) n n) l) (hi' : i ≤ n) (hn : n ≤ 4194304) (hq : w.rangeAt q 0 (goodE.cells y)) (hb : Below base w0 w) (hbase : base ≤ w.heap.size) :
    Calls Tryz.prog 32 #[.slice (some ⟨g, 0, none⟩) n n, .int .i64 i, .slice (some ⟨q, 0, none⟩) 1 1] w fun e w' => ∃ A c, e = .returned (.slice A (n + 1) c) ∧ GL goodE 27 base w' (.slice A (n + 1) c) (l.take i ++ [y] ++ l.drop i) ∧ Below base w0 w' := by
  obtain ⟨i0, hi, hz0, hz1, hz2⟩ := info_parts Tryz.inf_Good
  have hlen := hgl.len
  by_cases hin : i = n
  · subst hin
    go_enter Tryz.func32, Tryz.ntmps32
    go_wp2_with (at_builtin; refine wpList_push goodE rfl _ _ 24 rfl base 27 i0 _ 40 Tryz.underlying24 hi hz0 hz1 hz2 rfl (.slice (some ⟨g, 0, none⟩) i i) l y rfl hgl q rfl hq (by omega) (by decide) w0 hb hbase ?_; intro A' c' w2 hgl' hb' _)
    go_ret
    exact ⟨A', c', rfl, by rw [List.take_of_length_le (Nat.le_of_eq hlen), List.drop_of_length_le (Nat.le_of_eq hlen), List.append_nil]; first | exact hgl' | (rw [hlen] at hgl'; exact hgl'), hb'⟩
  · obtain ⟨r, rfl⟩ : ∃ r, n = i + r := ⟨n - i, by omega⟩
    have hqs : q < w.heap.size := World.block_lt_of_cell? w _ (hq 0 _ (List.getElem?_eq_getElem (show 0 < (goodE.cells y).length by rw [goodE.len]; exact goodE.pos)))
    have hgs : g < w.heap.size := (hgl.own.2.lt g rfl).2
    have hK : (i : Int) + (r : Int) + 1 - (i : Int) = (r : Int) + 1 := by omega
    obtain ⟨h, hh⟩ : ∃ h, w.heap.size = h := ⟨_, rfl⟩
    have hry : ([y].flatMap goodE.cells) = goodE.cells y := by simp
    go_enter Tryz.func32, Tryz.ntmps32
    go_wp2_with (at_builtin; refine wpList_zerosL goodE rfl (.tmp 34) (.tmp 39) 24 3 rfl base 27 i0 _ 40 .i64 .i64 Tryz.underlying24 Tryz.underlying3 hi hz0 hz1 hz2 ⟨⟨#[]⟩, 0, 0, 0⟩ rfl g i (r + 1) (i + r) l ((r : Int) + 1) rfl rfl (by omega) hgl (by omega) (by omega) (by omega) (i + r + 1) (by omega) _ rfl (by omega) (by decide) hbase ?_; intro c' w1 hgl1 hb1 hc1 hs1; have hb1' := hb1; rw [hh] at hgl1 hb1 hs1 ⊢)
    have hy1 := range_below (B := 0) hq hb1'
    have hlr : (l.take i ++ List.replicate (r + 1) (⟨⟨#[]⟩, 0, 0, 0⟩ : DGood)).length = i + r + 1 := hgl1.len
    have hmin : 1 = Nat.min 1 (i + r + 1 - i) := (Nat.min_eq_left (by omega)).symm
    rw [run_copy_k (P := Tryz.prog) (w := w1) _ _ _ _ Tryz.underlying24 i0 hi h (i * 4) (i + r + 1 - i) (c' - i) ⟨q, 0, none⟩ 1 1 1 (goodE.cells y) hmin (by rw [goodE.len, hz1]; rfl) (fun j u hu => by have := hy1 j u hu; rw [addr_add, Nat.zero_add]; rwa [Nat.zero_add] at this) (fun u hu => goodE.one y u hu) (fun j hj => hgl1.cell (by rw [goodE.len] at hj; show i * 4 + j < (i + r + 1) * 4; have hj' : j < 4 := hj; omega)) (fun j hj => hgl1.free _)]
    have hgl2 := hgl1.splice i [y] (by simp)
    rw [hry] at hgl2
    obtain ⟨W2, hW2⟩ : ∃ W2, W2 = w1.setCells h (i * 4) (goodE.cells y) := ⟨_, rfl⟩
    rw [← hW2]
    change GL goodE _ base (w1.setCells h (i * 4) (goodE.cells y)) _ _ at hgl2
    rw [← hW2] at hgl2
    have hgh : g ≠ h := by omega
    have T1 : Touch (· = h) w1 W2 := by rw [hW2]; exact Touch.setCells (F := (· = h)) rfl _ _
    have hold : GL goodE 27 base W2 (.slice (some ⟨g, 0, none⟩) (i + r) (i + r)) l := own_touch (hgl.below hb1') T1 (fun k hk => by cases hk; exact hgh)
    have hB2 : Below base w0 W2 := by rw [hW2]; exact below_setCells (by omega) _ _ (hb.trans (hb1'.mono hbase))
    have hdl : Hid ((l.drop i).length = r) := Lib.hid (by rw [List.length_drop, hlen]; omega)
    have hgl3 := (hgl2.drew).splice (i + 1) (l.drop i) (by rw [hdl.out]; omega)
    have HG2 := Lib.hid hgl2.drew
    have HO := Lib.hid (hold.drew.range i)
    have HG3 : Hid (GL goodE 27 base (W2.drew.setCells h ((i + 1) * 4) ((l.drop i).flatMap goodE.cells)) (.slice (some ⟨h, 0, none⟩) (i + r + 1) c') (l.take i ++ [y] ++ l.drop i)) := Lib.hid (by
      have e := ins_list l i r hlen y (⟨⟨#[]⟩, 0, 0, 0⟩ : DGood)
      rw [e] at hgl3
      exact hgl3)
    have hB3 : Below base w0 (W2.drew.setCells h ((i + 1) * 4) ((l.drop i).flatMap goodE.cells)) := below_setCells (by omega) _ _ hB2.drew
    obtain ⟨W3, hW3⟩ : ∃ W3, W3 = W2.drew.setCells h ((i + 1) * 4) ((l.drop i).flatMap goodE.cells) := ⟨_, rfl⟩
    rw [← hW3] at HG3 hB3
    have HW3 := Lib.hid hW3
    clear hW3 hW2 hmin hlr hgl2 hgl3 hold T1 hB2 hy1 hgl1 hry hlen hgl hb1 hb1'
    have f1 : (0 : Int) ≤ (i : Int) + 1 := by omega
    have f2 : (i : Int) ≤ (i : Int) + (r : Int) := by omega
    have f3 : ¬ (i + r = i) := by omega
    have f4 : ¬ (c' = i + 1) := by omega
    have f5 : i + 1 ≤ c' := by omega
    have f6 : IntKind.i64.wrap ((i : Int) + 1) = (i : Int) + 1 := by rw [IntKind.wrap_i64]; omega
    have f7 : ((i : Int) + 1).toNat = i + 1 := by omega
    have f8 : i + r + 1 - (i + 1) = r := by omega
    have f9 : i + r - i = r := by omega
    go_wp2_with fail
    go_region_law (refine step_copyL goodE rfl (.tmp 50) (.tmp 53) 24 rfl base 27 i0 Tryz.underlying24 hi hz1 h (i + r + 1) c' (i + 1) r (c' - (i + 1)) r r _ (l.drop i) ⟨g, i * 4, none⟩ (by simp [Act.eval, Act.put]; rfl) (by simp [Act.eval, Act.put]; omega) HG2.out hdl.out (by omega) (by omega) (fun j u hu => by rw [addr_add]; exact HO.out j u hu) ?_; rw [show (i + 1) * (goodE : Enc DGood).k = (i + 1) * 4 from rfl, ← HW3.out])
    go_wp2
    go_ret
    exact ⟨_, _, rfl, (by have := HG3.out; first | exact this | (rw [List.append_assoc, List.singleton_append] at this; exact this)), hB3⟩

end Go.Proofs.YtfogginmdglagaaGreatDoor

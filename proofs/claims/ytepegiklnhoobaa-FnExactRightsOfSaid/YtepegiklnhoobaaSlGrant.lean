/- clone, Delete, Insert at Grant; printed by a program of mine. -/
import Derived.Test.YtepegiklnhoobaaRows
import Derived.Test.YtepegiklnhoobaaCGrant
import Derived.Test.YtepegiklnhoobaaArr
import Derived.Test.YtepegiklnhoobaaIns
namespace Go.Proofs.Ytepegiklnhoobaa
set_option linter.unusedVariables false
set_option linter.unusedSimpArgs false
set_option linter.unusedSectionVars false
open Go.RowKit

theorem Try.inf_Grant : (Try.prog.info? 50).map (fun i => (i.zero, i.size, i.bytes)) = some (some (.agg #[.string ⟨#[]⟩, .string ⟨#[]⟩, .int .i64 0]), 3, 40) := by kernel_rfl

theorem Try.zc_Grant : (Builtin.zeroCells (Value.agg #[.string ⟨#[]⟩, .string ⟨#[]⟩, .int .i64 0]).cells 1).toList = [.string ⟨#[]⟩, .string ⟨#[]⟩, .int .i64 0] := by kernel_rfl

set_option maxRecDepth 100000 in
set_option maxHeartbeats 1000000 in
theorem i_cloneGrant (A : Option Addr) (n c : Nat) (l : List DGrant) (w : World) (hr : Rd grantE w A n l) (hn : n ≤ 4194304) :
    Calls Try.prog 75 #[.slice A n c] w (RetClone grantE 50 l n w) := by
  obtain ⟨i0, hi, hz0, hz1, hz2⟩ := info_parts Try.inf_Grant
  have Hl := Lib.hid hr.1
  obtain ⟨w1, hmk, ho1, hg1⟩ := run_make_own (P := Try.prog) w w.heap.size 39 50 i0 _ 3 Try.underlying39 hi hz0 hz1 .i64 .i64 n (by rw [hz2]; omega) (by unfold maxLen; omega) (Nat.le_refl _)
  have hb1 : Below w.heap.size w w1 := (Below.refl _ _).grown hg1 (Nat.le_refl _) (fun k hk => by cases hk)
  have hgl0 : GL grantE 50 w.heap.size w1 (.slice (some ⟨w.heap.size, 0, none⟩) 0 n) [] := ho1
  have hr1 := hr.below hb1
  clear ho1 hg1
  go_enter Try.func75, Try.ntmps75
  go_wp2_with (at_builtin; refine wpList_fitL grantE rfl _ _ 39 rfl w.heap.size 50 i0 Try.underlying39 hi hz1 w.heap.size 0 n [] l rfl hgl0 A n c rfl Hl.out (Rd.noneLen hr) (Rd.src hr1) (by omega) w hb1 hb1.size ?_; intro w2 hgl hb2 hs2)
  go_ret
  exact ⟨w.heap.size, by simp, by simpa using hgl, hb2⟩
set_option maxRecDepth 100000 in
set_option maxHeartbeats 1000000 in
theorem i_DeleteGrant (g m c i base : Nat) (l : List DGrant) (w w0 : World) (hgl : GL grantE 50 base w (.slice (some ⟨g, 0, none⟩) (m + 1) c) l) (hi' : i ≤ m) (hn : m + 1 ≤ 8388608) (hb : Below base w0 w) :
    Calls Try.prog 74 #[.slice (some ⟨g, 0, none⟩) (m + 1) c, .int .i64 i, .int .i64 (i + 1)] w fun e w' => e = .returned (.slice (some ⟨g, 0, none⟩) m c) ∧ GL grantE 50 base w' (.slice (some ⟨g, 0, none⟩) m c) (l.take i ++ l.drop (i + 1)) ∧ Below base w0 w' := by
  obtain ⟨i0, hi, hz0, hz1, hz2⟩ := info_parts Try.inf_Grant
  obtain ⟨q, rfl⟩ : ∃ q, m = i + q := ⟨m - i, by omega⟩
  have hcap := hgl.cap
  have hlen := hgl.len
  have hc := hcap.2
  have hc1 := hcap.1
  unfold maxLen at hc
  clear hcap
  have hne : ((i : Int) == (i : Int) + 1) = false := by rw [beq_eq_false_iff_ne]; omega
  obtain ⟨news, hnews⟩ : ∃ news, news = (l.drop (i + 1)).flatMap grantE.cells := ⟨_, rfl⟩
  have s1 : Hid (news.length = q * 3) := Lib.hid (by rw [hnews, flat_len, List.length_drop, hlen, show i + q + 1 - (i + 1) = q by omega]; rfl)
  have s2 : Hid (∀ u ∈ news, u.oneCell' = true) := Lib.hid (by rw [hnews]; intro u hu; obtain ⟨y, _, hy⟩ := List.mem_flatMap.1 hu; exact grantE.one y u hy)
  obtain ⟨A, hA, hsrc⟩ : ∃ A : Addr, (if c = i + 1 then (some ⟨g, 0, none⟩ : Option Addr) else some ⟨g, (i + 1) * 3, none⟩) = some A ∧ Hid (∀ j u, news[j]? = some u → w.drew.cell? (A.add j) = some u) := by
    by_cases h : c = i + 1
    · refine ⟨⟨g, 0, none⟩, if_pos h, Lib.hid fun j u hu => ?_⟩
      have : q = 0 := by omega
      have h0 := s1.out
      rw [this, Nat.zero_mul] at h0
      rw [List.eq_nil_of_length_eq_zero h0] at hu
      simp at hu
    · refine ⟨⟨g, (i + 1) * 3, none⟩, if_neg h, Lib.hid fun j u hu => ?_⟩
      rw [addr_add]
      rw [hnews] at hu
      exact hgl.drew.range (i + 1) j u hu
  have s3 : Hid (∀ j, j < news.length → (w.drew.cell? ⟨g, 0 + i * 3 + j, none⟩).isSome = true ∧ w.drew.frozen? ⟨g, 0 + i * 3 + j, none⟩ = false) := Lib.hid (fun j hj => by
    rw [s1.out] at hj
    exact ⟨hgl.drew.cell (by show _ < _ * 3; omega), hgl.drew.free _⟩)
  obtain ⟨W1, hW1⟩ : ∃ W1, W1 = w.drew.setCells g (0 + i * 3) news := ⟨_, rfl⟩
  have hgl1 : GL grantE 50 base W1 (.slice (some ⟨g, 0, none⟩) (i + q + 1) c) (l.take i ++ l.drop (i + 1) ++ l.drop (i + (l.drop (i + 1)).length)) := by
    rw [hW1, hnews, Nat.zero_add]
    exact hgl.drew.splice i (l.drop (i + 1)) (by rw [List.length_drop]; omega)
  have hb1 : Below base w0 W1 := by rw [hW1]; exact below_setCells hgl.baseLe _ _ hb.drew
  have hcl : ∀ ty, (Builtin.clear_ #[39] ty #[.slice (some ⟨g, (i + q) * 3, none⟩) 1 (c - (i + q))]).run Try.prog W1 = .ok (.tuple #[]) (W1.setCells g ((i + q) * 3) [.string ⟨#[]⟩, .string ⟨#[]⟩, .int .i64 0]) :=
    fun ty => run_clear_one _ _ ty (.agg #[.string ⟨#[]⟩, .string ⟨#[]⟩, .int .i64 0]) Try.underlying39 (fun w => by simp [zeroValue, typeInfo, hi, hz0]) [.string ⟨#[]⟩, .string ⟨#[]⟩, .int .i64 0] Try.zc_Grant (by simp [Value.oneCell']) _ _ _
      (fun j hj => hgl1.cell (by simp at hj; show _ < _ * 3; omega)) (fun j hj => hgl1.free _)
  have hgl2 := hgl1.splice (i + q) [(⟨⟨#[]⟩, ⟨#[]⟩, 0⟩ : DGrant)] (by simp)
  have hgl3 := hgl2.cut (i + q) (by omega)
  have HG : Hid (GL grantE 50 base (W1.setCells g ((i + q) * 3) [.string ⟨#[]⟩, .string ⟨#[]⟩, .int .i64 0]) (.slice (some ⟨g, 0, none⟩) (i + q) c) (l.take i ++ l.drop (i + 1))) := Lib.hid (by
    have e : ((l.take i ++ l.drop (i + 1) ++ l.drop (i + (l.drop (i + 1)).length)).take (i + q) ++ [(⟨⟨#[]⟩, ⟨#[]⟩, 0⟩ : DGrant)] ++ (l.take i ++ l.drop (i + 1) ++ l.drop (i + (l.drop (i + 1)).length)).drop (i + q + [(⟨⟨#[]⟩, ⟨#[]⟩, 0⟩ : DGrant)].length)).take (i + q) = l.take i ++ l.drop (i + 1) := by
      have hx : (l.take i ++ l.drop (i + 1)).length = i + q := by simp; omega
      rw [List.append_assoc, List.take_append_of_le_length (by simp; omega), List.take_take, Nat.min_self, List.take_append_of_le_length (by omega), List.take_of_length_le (by omega)]
    rw [e] at hgl3
    exact hgl3)
  have hb2 : Below base w0 (W1.setCells g ((i + q) * 3) [.string ⟨#[]⟩, .string ⟨#[]⟩, .int .i64 0]) := below_setCells hgl.baseLe _ _ hb1
  have hW : Hid (W1 = w.drew.setCells g (0 + i * 3) news) := Lib.hid hW1
  clear hW1 hgl hgl1 hgl2 hgl3 hb1 hnews hlen
  have hic : i ≤ c := by omega
  have hjc : i + 1 ≤ c := by omega
  have hjz : (0 : Int) ≤ (i : Int) + 1 := by omega
  have hiq : (i : Int) ≤ (i : Int) + (q : Int) := by omega
  go_enter Try.func74, Try.ntmps74
  go_wp2_with fail
  go_region_law (refine step_append_room rfl (.tmp 22) (.tmp 25) 39 rfl 50 i0 3 Try.underlying39 hi hz1 g 0 i c (by simp [Act.eval, Act.put]) A q (c - (i + 1)) news (by simp [Act.eval, Act.put]) s1.out hsrc.out s2.out (by omega) s3.out ?_; rw [← hW.out])
  go_wp2
  go_ret
  exact ⟨rfl, HG.out, hb2⟩
set_option maxRecDepth 100000 in
set_option maxHeartbeats 2000000 in
theorem i_InsertGrant (g n i q base : Nat) (l : List DGrant) (y : DGrant) (w w0 : World) (hgl : GL grantE 50 base w (.slice (some ⟨g, 0, none⟩) n n) l) (hi' : i ≤ n) (hn : n ≤ 4194304) (hq : w.rangeAt q 0 (grantE.cells y)) (hb : Below base w0 w) (hbase : base ≤ w.heap.size) :
    Calls Try.prog 83 #[.slice (some ⟨g, 0, none⟩) n n, .int .i64 i, .slice (some ⟨q, 0, none⟩) 1 1] w fun e w' => ∃ A c, e = .returned (.slice A (n + 1) c) ∧ GL grantE 50 base w' (.slice A (n + 1) c) (l.take i ++ [y] ++ l.drop i) ∧ Below base w0 w' := by
  obtain ⟨i0, hi, hz0, hz1, hz2⟩ := info_parts Try.inf_Grant
  have hlen := hgl.len
  by_cases hin : i = n
  · subst hin
    go_enter Try.func83, Try.ntmps83
    go_wp2_with (at_builtin; refine wpList_push grantE rfl _ _ 39 rfl base 50 i0 _ 40 Try.underlying39 hi hz0 hz1 hz2 rfl (.slice (some ⟨g, 0, none⟩) i i) l y rfl hgl q rfl hq (by omega) (by decide) w0 hb hbase ?_; intro A' c' w2 hgl' hb' _)
    go_ret
    exact ⟨A', c', rfl, by rw [List.take_of_length_le (Nat.le_of_eq hlen), List.drop_of_length_le (Nat.le_of_eq hlen), List.append_nil]; first | exact hgl' | (rw [hlen] at hgl'; exact hgl'), hb'⟩
  · obtain ⟨r, rfl⟩ : ∃ r, n = i + r := ⟨n - i, by omega⟩
    have hqs : q < w.heap.size := World.block_lt_of_cell? w _ (hq 0 _ (List.getElem?_eq_getElem (show 0 < (grantE.cells y).length by rw [grantE.len]; exact grantE.pos)))
    have hgs : g < w.heap.size := (hgl.own.2.lt g rfl).2
    have hK : (i : Int) + (r : Int) + 1 - (i : Int) = (r : Int) + 1 := by omega
    obtain ⟨h, hh⟩ : ∃ h, w.heap.size = h := ⟨_, rfl⟩
    have hry : ([y].flatMap grantE.cells) = grantE.cells y := by simp
    go_enter Try.func83, Try.ntmps83
    go_wp2_with (at_builtin; refine wpList_zerosL grantE rfl (.tmp 34) (.tmp 39) 39 3 rfl base 50 i0 _ 40 .i64 .i64 Try.underlying39 Try.underlying3 hi hz0 hz1 hz2 ⟨⟨#[]⟩, ⟨#[]⟩, 0⟩ rfl g i (r + 1) (i + r) l ((r : Int) + 1) rfl rfl (by omega) hgl (by omega) (by omega) (by omega) (i + r + 1) (by omega) _ rfl (by omega) (by decide) hbase ?_; intro c' w1 hgl1 hb1 hc1 hs1; have hb1' := hb1; rw [hh] at hgl1 hb1 hs1 ⊢)
    have hy1 := range_below (B := 0) hq hb1'
    have hlr : (l.take i ++ List.replicate (r + 1) (⟨⟨#[]⟩, ⟨#[]⟩, 0⟩ : DGrant)).length = i + r + 1 := hgl1.len
    have hmin : 1 = Nat.min 1 (i + r + 1 - i) := (Nat.min_eq_left (by omega)).symm
    rw [run_copy_k (P := Try.prog) (w := w1) _ _ _ _ Try.underlying39 i0 hi h (i * 3) (i + r + 1 - i) (c' - i) ⟨q, 0, none⟩ 1 1 1 (grantE.cells y) hmin (by rw [grantE.len, hz1]; rfl) (fun j u hu => by have := hy1 j u hu; rw [addr_add, Nat.zero_add]; rwa [Nat.zero_add] at this) (fun u hu => grantE.one y u hu) (fun j hj => hgl1.cell (by rw [grantE.len] at hj; show i * 3 + j < (i + r + 1) * 3; have hj' : j < 3 := hj; omega)) (fun j hj => hgl1.free _)]
    have hgl2 := hgl1.splice i [y] (by simp)
    rw [hry] at hgl2
    obtain ⟨W2, hW2⟩ : ∃ W2, W2 = w1.setCells h (i * 3) (grantE.cells y) := ⟨_, rfl⟩
    rw [← hW2]
    change GL grantE _ base (w1.setCells h (i * 3) (grantE.cells y)) _ _ at hgl2
    rw [← hW2] at hgl2
    have hgh : g ≠ h := by omega
    have T1 : Touch (· = h) w1 W2 := by rw [hW2]; exact Touch.setCells (F := (· = h)) rfl _ _
    have hold : GL grantE 50 base W2 (.slice (some ⟨g, 0, none⟩) (i + r) (i + r)) l := own_touch (hgl.below hb1') T1 (fun k hk => by cases hk; exact hgh)
    have hB2 : Below base w0 W2 := by rw [hW2]; exact below_setCells (by omega) _ _ (hb.trans (hb1'.mono hbase))
    have hdl : Hid ((l.drop i).length = r) := Lib.hid (by rw [List.length_drop, hlen]; omega)
    have hgl3 := (hgl2.drew).splice (i + 1) (l.drop i) (by rw [hdl.out]; omega)
    have HG2 := Lib.hid hgl2.drew
    have HO := Lib.hid (hold.drew.range i)
    have HG3 : Hid (GL grantE 50 base (W2.drew.setCells h ((i + 1) * 3) ((l.drop i).flatMap grantE.cells)) (.slice (some ⟨h, 0, none⟩) (i + r + 1) c') (l.take i ++ [y] ++ l.drop i)) := Lib.hid (by
      have e := ins_list l i r hlen y (⟨⟨#[]⟩, ⟨#[]⟩, 0⟩ : DGrant)
      rw [e] at hgl3
      exact hgl3)
    have hB3 : Below base w0 (W2.drew.setCells h ((i + 1) * 3) ((l.drop i).flatMap grantE.cells)) := below_setCells (by omega) _ _ hB2.drew
    obtain ⟨W3, hW3⟩ : ∃ W3, W3 = W2.drew.setCells h ((i + 1) * 3) ((l.drop i).flatMap grantE.cells) := ⟨_, rfl⟩
    rw [← hW3] at HG3 hB3
    have HW3 := Lib.hid hW3
    clear hW3 hW2 hmin hlr hgl2 hgl3 hold T1 hB2 hy1 hgl1 hry hlen hgl hb1 hb1'
    have f1 : (0 : Int) ≤ (i : Int) + 1 := by omega
    have f2 : (i : Int) ≤ (i : Int) + (r : Int) := by omega
    have f3 : ¬ (i + r = i) := by omega
    have f4 : ¬ (c' = i + 1) := by omega
    have f5 : i + 1 ≤ c' := by omega
    have f6 : IntKind.i64.wrap ((i : Int) + 1) = (i : Int) + 1 := by rw [IntKind.wrap_i64]; omega
    have f7 : ((i : Int) + 1).toNat = i + 1 := by omega
    have f8 : i + r + 1 - (i + 1) = r := by omega
    have f9 : i + r - i = r := by omega
    go_wp2_with fail
    go_region_law (refine step_copyL grantE rfl (.tmp 50) (.tmp 53) 39 rfl base 50 i0 Try.underlying39 hi hz1 h (i + r + 1) c' (i + 1) r (c' - (i + 1)) r r _ (l.drop i) ⟨g, i * 3, none⟩ (by simp [Act.eval, Act.put]; rfl) (by simp [Act.eval, Act.put]; omega) HG2.out hdl.out (by omega) (by omega) (fun j u hu => by rw [addr_add]; exact HO.out j u hu) ?_; rw [show (i + 1) * (grantE : Enc DGrant).k = (i + 1) * 3 from rfl, ← HW3.out])
    go_wp2
    go_ret
    exact ⟨_, _, rfl, (by have := HG3.out; first | exact this | (rw [List.append_assoc, List.singleton_append] at this; exact this)), hB3⟩

end Go.Proofs.Ytepegiklnhoobaa

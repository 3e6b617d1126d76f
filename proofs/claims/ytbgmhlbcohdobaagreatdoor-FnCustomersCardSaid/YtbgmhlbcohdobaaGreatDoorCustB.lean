/- Customers sorted by what they have spent: a stable insertion sort with a function value that reads the visits. The best customers: the stable sort, and what the program returns. -/
import Derived.Test.YtbgmhlbcohdobaaGreatDoorRows
import Derived.Test.YtbgmhlbcohdobaaGreatDoorCustF
import Derived.BigRegion
namespace Go.Proofs.YtbgmhlbcohdobaaGreatDoor
set_option linter.unusedVariables false
set_option linter.unusedSimpArgs false
set_option linter.unusedSectionVars false
open Go.RowKit

theorem nameW {B : Nat} {w0 w : World} (h : Below B w0 w) : ∃ W, W = w ∧ Below B w0 W := ⟨w, rfl, h⟩
def RB (l : List DVisit) : ByteArray → ByteArray → Prop := bestR (spB l)
theorem RB.tr {l : List DVisit} : ∀ a b c, RB l a b → RB l b c → RB l a c := bestR.trans
set_option maxRecDepth 100000 in
set_option maxHeartbeats 2000000 in
theorem i_Best1 (a b : ByteArray) (q : Nat) (A : Option Addr) (n c : Nat) (l : List DVisit) (w : World) (hq : w.cell? ⟨q, 0, none⟩ = some (.slice A n c)) (hr : Rd visitE w A n l) (hok : OkVs l) :
    Calls Tryz.prog 22 #[.string a, .string b, .pointer (some ⟨q, 0, none⟩)] w fun e w' => e = .returned (.int .i64 (spB l b - spB l a)) ∧ Below w.heap.size w w' := by
  have ha := hok.sp a
  have hb := hok.sp b
  have HS : Hid (∀ (s : ByteArray) W, Below w.heap.size w W → Calls Tryz.prog 23 #[.slice A n c, .string s] W fun e w' => e = .returned (.int .i64 (spB l s)) ∧ Below W.heap.size W w') := Lib.hid fun s W h => i_spent A n c l s W (hr.below h) hok
  have HA : Hid (∀ W, Below w.heap.size w W → Calls Tryz.prog 23 #[.slice A n c, .string a] W fun e w' => e = .returned (.int .i64 (spB l a)) ∧ Below W.heap.size W w') := Lib.hid fun W h => HS.out a W h
  have HB : Hid (∀ W, Below w.heap.size w W → Calls Tryz.prog 23 #[.slice A n c, .string b] W fun e w' => e = .returned (.int .i64 (spB l b)) ∧ Below W.heap.size W w') := Lib.hid fun W h => HS.out b W h
  obtain ⟨x, hx⟩ : ∃ x, spB l a = x := ⟨_, rfl⟩
  obtain ⟨y, hy⟩ : ∃ y, spB l b = y := ⟨_, rfl⟩
  rw [hx] at ha HA ⊢
  rw [hy] at hb HB ⊢
  have hw : IntKind.i64.wrap (y - x) = y - x := wid (by omega)
  have hb0 : Below w.heap.size w w := Below.refl _ _
  clear hx hy HS hr hok
  go_enter Tryz.func22, Tryz.ntmps22
  go_wp2_with fail
  let S : World → Prop := fun w' => w'.cell? ⟨q, 0, none⟩ = some (.slice A n c) ∧ Below w.heap.size w w'
  have hS : S (World.drew w) := ⟨hq, (hb0).drew⟩
  have hne : Nonempty (Wd S) := ⟨⟨_, hS⟩⟩
  have qc0 : ∀ t : Wd S, t.w.cell? ⟨q, 0, none⟩ = some (.slice A n c) := fun t => t.h.1
  have Q9 : Hid (∀ (t : Wd S) (w' : World), Below t.w.heap.size t.w w' → S w') := Lib.hid (fun t w' h => ⟨cell_later h t.h.1, t.h.2.trans (h.mono t.h.2.size)⟩)
  have QE : Hid (∀ w', S w' → w'.cell? ⟨q, 0, none⟩ = some (.slice A n c) ∧ Below w.heap.size w w') := Lib.hid (fun w' h => h)
  refine wp_region_class S (by kernel_rfl) (by kernel_rfl) hS ?_
  clear_value S
  repeat (go_big_quiet_step ((first | (with_reducible show Calls _ _ #[_, .string b] _ _; exact class_call _ (HB.out _ (QE.out _ (Wd.h _)).2) (fun e w' h => ⟨h.1, Q9.out _ _ h.2⟩)) | (with_reducible show Calls _ _ #[_, .string a] _ _; exact class_call _ (HA.out _ (QE.out _ (Wd.h _)).2) (fun e w' h => ⟨h.1, Q9.out _ _ h.2⟩)))))
  refine wpQuiet_nil ?_
  rintro _ ⟨⟨w1, hw1⟩, rfl⟩
  have hE := QE.out _ hw1
  have hbE := hE.2
  clear hE
  try dsimp only
  clear hw1 hS hne Q9 QE qc0
  go_wp2
  go_ret
  exact ⟨rfl, hbE⟩
set_option maxRecDepth 100000 in
set_option maxHeartbeats 8000000 in
theorem i_insertSort (g n c q m cc : Nat) (A : Option Addr) (l : List DVisit) (ns : List ByteArray) (w0 w : World) (hq : w0.cell? ⟨q, 0, none⟩ = some (.slice A m cc)) (hr : Rd visitE w0 A m l) (hok : OkVs l) (hn : n ≤ 9)
    (hns : ns.Pairwise fun a b => leS a b ∧ a ≠ b) (hgl : GL strE 9 w0.heap.size w (.slice (some ⟨g, 0, none⟩) n c) ns) (hb0 : Below w0.heap.size w0 w) :
    Calls Tryz.prog 51 #[.slice (some ⟨g, 0, none⟩) n c, .int .i64 0, .int .i64 n, .func (.func 22) #[] #[.pointer (some ⟨q, 0, none⟩)]] w fun e w' => e = .returned (.tuple #[]) ∧ ∃ L, L.Perm ns ∧ L.Pairwise (RB l) ∧ GL strE 9 w0.heap.size w' (.slice (some ⟨g, 0, none⟩) n c) L ∧ Below w0.heap.size w0 w' := by
  have HQ := Lib.hid hq
  have HR := Lib.hid hr
  have HO := Lib.hid hok
  have HNS := Lib.hid hns
  have Hl := Lib.hid hgl.len
  have HG := Lib.hid hgl
  have HB0 := Lib.hid hb0
  have hgb := hgl.baseLe
  have HC : Hid (∀ (a b : ByteArray) W, Below w0.heap.size w0 W → Calls Tryz.prog 22 #[.string a, .string b, .pointer (some ⟨q, 0, none⟩)] W fun e w' => e = .returned (.int .i64 (spB l b - spB l a)) ∧ Below W.heap.size W w') := Lib.hid fun a b W h => i_Best1 a b q A m cc l W (cell_later h hq) (hr.below h) hok
  clear hq hr hok hns hgl hb0
  go_enter Tryz.func51, Tryz.ntmps51
  go_wp2_with fail
  go_loopw [8] (fun i wr => ∃ (k : Nat) (L : List ByteArray), 1 ≤ k ∧ (k ≤ n ∨ k = 1) ∧ i = .int .i64 k ∧ GL strE 9 w0.heap.size wr (.slice (some ⟨g, 0, none⟩) n c) L ∧ Below w0.heap.size w0 wr ∧ Hid (Stb (RB l) ns k L)) (fun i _ => n - (intOf i).toNat)
  case atStart => exact ⟨1, ns, Nat.le_refl _, .inr rfl, rfl, HG.out, HB0.out, Lib.hid (Stb.one _ _)⟩
  case round =>
    obtain ⟨k, L, hk1, hk, rfl, hgl, hb, HP⟩ := hrel
    obtain ⟨wo, rfl⟩ : ∃ wo : World, wo = wr := ⟨_, rfl⟩
    clear HG HB0
    by_cases hlt : k < n
    · obtain ⟨y, hy⟩ : ∃ y, ns[k]? = some y := ⟨_, List.getElem?_eq_getElem (by have := Hl.out; omega)⟩
      have HI := Lib.hid (InsR.start HP.out hy)
      have HY := Lib.hid hy
      clear hy
      go_wp2_with fail
      go_loopw [9] (fun j wr => ∃ (p : Nat) (L' P M : List ByteArray), p ≤ k ∧ j = .int .i64 p ∧ GL strE 9 w0.heap.size wr (.slice (some ⟨g, 0, none⟩) n c) L' ∧ Below w0.heap.size w0 wr ∧ Hid (InsR (RB l) ns k p L' P y M)) (fun j _ => (intOf j).toNat)
      case atStart => exact ⟨k, L, L.take k, [], Nat.le_refl _, rfl, hgl, hb, HI⟩
      case round =>
        obtain ⟨p, L', P, M, hp, rfl, hgl', hb', HI'⟩ := hrel
        clear HI hgl hb HP
        rcases p with _ | p
        · have HS := Lib.hid (by
            have hP : P = [] := List.eq_nil_of_length_eq_zero HI'.out.k
            have h := HI'.out
            rw [hP] at h
            exact h.first)
          have hgd : ∀ m, GL strE 9 w0.heap.size (wr.drewN m) (.slice (some ⟨g, 0, none⟩) n c) L' := fun m => hgl'
          have hbd : ∀ m, Below w0.heap.size w0 (wr.drewN m) := fun m => below_drewN hb' m
          go_wp2_with fail
          go_quiet (fail)
          go_wp2
          first | (refine ⟨⟨k + 1, L', by omega, .inl (by omega), by simp, hgd _, hbd _, HS⟩, ?_⟩; (simp [intOf]; omega)) | (go_roundw; (case rel => first | exact ⟨k + 1, L', by omega, .inl (by omega), by simp, hgd _, hbd _, HS⟩ | ((try refine ⟨trivial, ?_⟩); (repeat apply Exists.intro); exact ⟨⟨k + 1, L', by omega, .inl (by omega), by simp, hgd _, hbd _, HS⟩, rfl⟩)); (case measure => (simp [intOf]; omega)))
        · obtain ⟨P', x, hP, hP'⟩ := snoc_of HI'.out.k
          have HE : L' = P' ++ x :: y :: (M ++ ns.drop (k + 1)) := by rw [HI'.out.eq, hP]; simp
          have HI2 : Hid (InsR (RB l) ns k (p + 1) L' (P' ++ [x]) y M) := Lib.hid (hP ▸ HI'.out)
          have HXY : Hid (leS x y ∧ x ≠ y) := Lib.hid (by
            have hx : x ∈ ns.take k := HI2.out.old (by simp)
            obtain ⟨j, hj⟩ := List.mem_iff_getElem?.1 hx
            have hjl := (List.getElem?_eq_some_iff.1 hj).1
            rw [List.length_take] at hjl
            rw [List.getElem?_take, if_pos (by omega)] at hj
            obtain ⟨h1, rfl⟩ := List.getElem?_eq_some_iff.1 hj
            obtain ⟨h2, rfl⟩ := List.getElem?_eq_some_iff.1 HY.out
            exact List.pairwise_iff_getElem.1 HNS.out j k h1 h2 (by omega))
          rw [HE] at hgl'
          obtain ⟨hc0, hc1⟩ := hgl'.cellsTwo hP'
          have hs1 := HO.out.sp x
          have hs2 := HO.out.sp y
          have HCY : Hid (∀ W, Below w0.heap.size w0 W → Calls Tryz.prog 22 #[.string y, .string x, .pointer (some ⟨q, 0, none⟩)] W fun e w' => e = .returned (.int .i64 (spB l x - spB l y)) ∧ Below W.heap.size W w') := Lib.hid fun W h => HC.out y x W h
          have HRB : Hid ((spB l x < spB l y → RB l y x) ∧ (¬ spB l x < spB l y → RB l x y)) := Lib.hid ⟨fun h => .inl h, fun h => by
            by_cases e : spB l y < spB l x
            · exact .inl e
            · exact .inr ⟨by omega, HXY.out⟩⟩
          obtain ⟨sx, hsx⟩ : ∃ s, spB l x = s := ⟨_, rfl⟩
          obtain ⟨sy, hsy⟩ : ∃ s, spB l y = s := ⟨_, rfl⟩
          rw [hsx] at hs1 HCY HRB
          rw [hsy] at hs2 HCY HRB
          have HG' := Lib.hid hgl'
          have HB' := Lib.hid hb'
          have HD := Lib.hid (HE)
          clear hsx hsy hP HE hgl' hb' HXY
          obtain ⟨w, hww⟩ : ∃ w : World, wr = w := ⟨_, rfl⟩
          subst hww
          have hbr : Below wr.heap.size wr wr := Below.refl _ _
          obtain ⟨w, hww⟩ : ∃ w : World, wr = w := ⟨_, rfl⟩
          rw [hww] at hbr hc0 hc1 HG' HB' ⊢
          clear hww
          by_cases hcmp : sx < sy
          · have h1 : decide (sx - sy < 0) = true := decide_eq_true (by omega)
            have h2 : sx - sy < 0 := by omega
            have HS := Lib.hid (HI2.out.swap (HRB.out.1 hcmp))
            go_wp2_with fail
            let S : World → Prop := fun w' => w'.cell? ⟨g, p, none⟩ = some (.string x) ∧ w'.cell? ⟨g, p + 1, none⟩ = some (.string y) ∧ Below w.heap.size w w'
            have hS : S (World.drew w) := ⟨hc0, hc1, (hbr).drew⟩
            have hne : Nonempty (Wd S) := ⟨⟨_, hS⟩⟩
            have qc0 : ∀ t : Wd S, t.w.cell? ⟨g, p, none⟩ = some (.string x) := fun t => t.h.1
            have qc1 : ∀ t : Wd S, t.w.cell? ⟨g, p + 1, none⟩ = some (.string y) := fun t => t.h.2.1
            have Q9 : Hid (∀ (t : Wd S) (w' : World), Below t.w.heap.size t.w w' → S w') := Lib.hid (fun t w' h => ⟨cell_later h t.h.1, cell_later h t.h.2.1, t.h.2.2.trans (h.mono t.h.2.2.size)⟩)
            have QE : Hid (∀ w', S w' → w'.cell? ⟨g, p, none⟩ = some (.string x) ∧ w'.cell? ⟨g, p + 1, none⟩ = some (.string y) ∧ Below w.heap.size w w') := Lib.hid (fun w' h => h)
            refine wp_region_class S (by kernel_rfl) (by kernel_rfl) hS ?_
            clear_value S
            repeat (go_big_quiet_step ((first | (go_at_call 22; exact class_call _ (HCY.out _ (HB'.out.trans ((QE.out _ (Wd.h _)).2.2.mono HB'.out.size))) (fun e w' h => ⟨h.1, Q9.out _ _ h.2⟩)))))
            refine wpQuiet_nil ?_
            rintro _ ⟨⟨w1, hw1⟩, rfl⟩
            obtain ⟨hd0, hd1, hbE⟩ := QE.out _ hw1
            try dsimp only
            clear hw1 hS hne Q9 QE qc0 qc1
            obtain ⟨wc, rfl, hbF⟩ := nameW hbE
            have hgl2 := (HG'.out.below hbF)
            have hb2 := HB'.out.trans (hbF.mono HB'.out.size)
            have hf0 := hgl2.free p
            have hf1 := hgl2.free (p + 1)
            have hgl3 := Lib.hid (fun m => GL.swapS2 (w := wc.drewN m) (show GL strE 9 w0.heap.size (wc.drewN m) _ _ from hgl2) hP')
            have hb3 := Lib.hid (fun m => (Below.setCell (Below.setCell (below_drewN hb2 m) hgb (.string x)) hgb (.string y) : Below w0.heap.size w0 (((wc.drewN m).setCell ⟨g, p + 1, none⟩ (.string x)).setCell ⟨g, p, none⟩ (.string y))))
            clear hgl2 hb2 hbE hbF h1 h2 hcmp hc0 hc1 hbr
            go_wp2_with fail
            go_region
            all_goals
              go_wp2
              first | (refine ⟨⟨p, _, P', x :: M, by omega, by simp, (hgl3.out _), (hb3.out _), HS⟩, ?_⟩; (simp [intOf])) | (go_roundw; (case rel => first | exact ⟨p, _, P', x :: M, by omega, by simp, (hgl3.out _), (hb3.out _), HS⟩ | ((try refine ⟨trivial, ?_⟩); (repeat apply Exists.intro); exact ⟨⟨p, _, P', x :: M, by omega, by simp, (hgl3.out _), (hb3.out _), HS⟩, rfl⟩)); (case measure => (simp [intOf])))
          · have h1 : decide (sx - sy < 0) = false := decide_eq_false (by omega)
            have h2 : ¬ sx - sy < 0 := by omega
            have HS := Lib.hid (HI2.out.stop RB.tr (HRB.out.2 hcmp))
            rw [← HD.out] at HG'
            go_wp2_with fail
            let S : World → Prop := fun w' => w'.cell? ⟨g, p, none⟩ = some (.string x) ∧ w'.cell? ⟨g, p + 1, none⟩ = some (.string y) ∧ Below w.heap.size w w'
            have hS : S (World.drew w) := ⟨hc0, hc1, (hbr).drew⟩
            have hne : Nonempty (Wd S) := ⟨⟨_, hS⟩⟩
            have qc0 : ∀ t : Wd S, t.w.cell? ⟨g, p, none⟩ = some (.string x) := fun t => t.h.1
            have qc1 : ∀ t : Wd S, t.w.cell? ⟨g, p + 1, none⟩ = some (.string y) := fun t => t.h.2.1
            have Q9 : Hid (∀ (t : Wd S) (w' : World), Below t.w.heap.size t.w w' → S w') := Lib.hid (fun t w' h => ⟨cell_later h t.h.1, cell_later h t.h.2.1, t.h.2.2.trans (h.mono t.h.2.2.size)⟩)
            have QE : Hid (∀ w', S w' → w'.cell? ⟨g, p, none⟩ = some (.string x) ∧ w'.cell? ⟨g, p + 1, none⟩ = some (.string y) ∧ Below w.heap.size w w') := Lib.hid (fun w' h => h)
            refine wp_region_class S (by kernel_rfl) (by kernel_rfl) hS ?_
            clear_value S
            repeat (go_big_quiet_step ((first | (go_at_call 22; exact class_call _ (HCY.out _ (HB'.out.trans ((QE.out _ (Wd.h _)).2.2.mono HB'.out.size))) (fun e w' h => ⟨h.1, Q9.out _ _ h.2⟩)))))
            refine wpQuiet_nil ?_
            rintro _ ⟨⟨w1, hw1⟩, rfl⟩
            obtain ⟨hd0, hd1, hbE⟩ := QE.out _ hw1
            try dsimp only
            clear hw1 hS hne Q9 QE qc0 qc1
            have hgl2 := (HG'.out.below hbE)
            have hb2 := HB'.out.trans (hbE.mono HB'.out.size)
            clear hbE h1 h2 hcmp hc0 hc1 hbr hd0 hd1
            go_wp2
            first | (refine ⟨⟨k + 1, L', by omega, .inl (by omega), by simp, hgl2, hb2, HS⟩, ?_⟩; (simp [intOf]; omega)) | (go_roundw; (case rel => first | exact ⟨k + 1, L', by omega, .inl (by omega), by simp, hgl2, hb2, HS⟩ | ((try refine ⟨trivial, ?_⟩); (repeat apply Exists.intro); exact ⟨⟨k + 1, L', by omega, .inl (by omega), by simp, hgl2, hb2, HS⟩, rfl⟩)); (case measure => (simp [intOf]; omega)))
    · have HS : Hid (L.Perm ns ∧ L.Pairwise (RB l)) := Lib.hid (by
        have h := HP.out
        have hl := Hl.out
        rcases hk with hk | hk
        · exact ⟨h.perm_all (by omega), h.sorted_all (by omega)⟩
        · exact ⟨h.perm_all (by omega), h.sorted_all (by omega)⟩)
      go_wp2
      go_end0
      exact ⟨rfl, L, HS.out.1, HS.out.2, hgl, hb⟩
set_option maxRecDepth 100000 in
set_option maxHeartbeats 2000000 in
theorem i_stableSort (g n c q m cc : Nat) (A : Option Addr) (l : List DVisit) (ns : List ByteArray) (w0 w : World) (hq : w0.cell? ⟨q, 0, none⟩ = some (.slice A m cc)) (hr : Rd visitE w0 A m l) (hok : OkVs l) (hn : n ≤ 9)
    (hns : ns.Pairwise fun a b => leS a b ∧ a ≠ b) (hgl : GL strE 9 w0.heap.size w (.slice (some ⟨g, 0, none⟩) n c) ns) (hb0 : Below w0.heap.size w0 w) :
    Calls Tryz.prog 37 #[.slice (some ⟨g, 0, none⟩) n c, .int .i64 n, .func (.func 22) #[] #[.pointer (some ⟨q, 0, none⟩)]] w fun e w' => e = .returned (.tuple #[]) ∧ ∃ L, L.Perm ns ∧ L.Pairwise (RB l) ∧ GL strE 9 w0.heap.size w' (.slice (some ⟨g, 0, none⟩) n c) L ∧ Below w0.heap.size w0 w' := by
  have HI := Lib.hid (i_insertSort g n c q m cc A l ns w0 w hq hr hok hn hns hgl hb0)
  clear hq hr hok hns hgl hb0
  have h20 : ¬ (20 : Int) ≤ (n : Int) := by omega
  have h21 : ¬ (20 : Int) < (n : Int) := by omega
  have h22 : decide ((20 : Int) ≤ (n : Int)) = false := decide_eq_false h20
  have h23 : decide ((20 : Int) < (n : Int)) = false := decide_eq_false h21
  go_enter Tryz.func37, Tryz.ntmps37
  go_wp2_with fail
  go_loop [7, 8] (fun a b => a = .int .i64 0 ∧ b = .int .i64 20) (fun _ _ => 0)
  case atStart => exact ⟨rfl, rfl⟩
  case round =>
    obtain ⟨rfl, rfl⟩ := hrel
    go_wp2_with fail
    refine HI.out.mono ?_
    rintro e w1 ⟨rfl, L, hp, hs, hgl, hb⟩
    go_wp2_with fail
    go_loop [6] (fun a => a = .int .i64 20) (fun _ => 0)
    case atStart => exact rfl
    case round =>
      obtain rfl := hrel
      go_wp2
      go_end0
      exact ⟨rfl, L, hp, hs, hgl, hb⟩
set_option maxRecDepth 100000 in
theorem i_SortStable (g n c q m cc : Nat) (A : Option Addr) (l : List DVisit) (ns : List ByteArray) (w0 w : World) (hq : w0.cell? ⟨q, 0, none⟩ = some (.slice A m cc)) (hr : Rd visitE w0 A m l) (hok : OkVs l) (hn : n ≤ 9)
    (hns : ns.Pairwise fun a b => leS a b ∧ a ≠ b) (hgl : GL strE 9 w0.heap.size w (.slice (some ⟨g, 0, none⟩) n c) ns) (hb0 : Below w0.heap.size w0 w) :
    Calls Tryz.prog 21 #[.slice (some ⟨g, 0, none⟩) n c, .func (.func 22) #[] #[.pointer (some ⟨q, 0, none⟩)]] w fun e w' => e = .returned (.tuple #[]) ∧ ∃ L, L.Perm ns ∧ L.Pairwise (RB l) ∧ GL strE 9 w0.heap.size w' (.slice (some ⟨g, 0, none⟩) n c) L ∧ Below w0.heap.size w0 w' := by
  have HI := Lib.hid (i_stableSort g n c q m cc A l ns w0 w hq hr hok hn hns hgl hb0)
  clear hq hr hok hns hgl hb0
  go_enter Tryz.func21, Tryz.ntmps21
  go_wp2_with fail
  refine HI.out.mono ?_
  rintro e w1 ⟨rfl, L, hp, hs, hgl, hb⟩
  go_wp2
  go_end0
  exact ⟨rfl, L, hp, hs, hgl, hb⟩
set_option maxRecDepth 100000 in
set_option maxHeartbeats 2000000 in
theorem i_BestCustomers (A : Option Addr) (n c : Nat) (l : List DVisit) (w : World) (hr : Rd visitE w A n l) (hok : OkVs l) :
    Calls Tryz.prog 8 #[.slice A n c, .int .i64 32] w fun e w' => ∃ (A' : Option Addr) (m c' : Nat) (L : List ByteArray), L.Perm (uniqB (sortB (l.map fun x => x.fWho))) ∧ L.Pairwise (RB l) ∧ e = .returned (.tuple #[.slice A' m c', .int .i64 0]) ∧ GL strE 9 w.heap.size w' (.slice A' m c') L ∧ Below w.heap.size w w' := by
  have hn : n ≤ 9 := by have := hok.few; have := hr.1; omega
  have HO := Lib.hid hok
  clear hok
  have hq : (w.alloc (.cells #[.slice A n c] 24)).cell? ⟨w.heap.size, 0, none⟩ = some (.slice A n c) := range_new w #[.slice A n c] 24 0 _ rfl
  have hb0 : Below w.heap.size w (w.alloc (.cells #[.slice A n c] 24)) := (Below.refl _ _).alloc (Nat.le_refl _) _
  obtain ⟨W0, hW0⟩ : ∃ W0, w.alloc (.cells #[.slice A n c] 24) = W0 := ⟨_, rfl⟩
  have hz : W0.heap.size = w.heap.size + 1 := by rw [← hW0]; simp
  rw [hW0] at hq hb0
  have HZ := Lib.hid hz
  have hr0 := hr.below hb0
  have HQ := Lib.hid hq
  clear hz hr
  go_enter Tryz.func8, Tryz.ntmps8
  go_wp2_with fail
  try rw [hW0]
  clear hW0
  refine (i_ValidVisits A n c l W0 hr0 HO.out).mono ?_
  rintro e w1 ⟨rfl, hb1⟩
  have hq1 := cell_later hb1 hq
  go_wp2_with fail
  refine (i_within _ _ _ _).mono ?_
  rintro e w' ⟨rfl, rfl⟩
  rw [inB_true (by omega) (by omega)]
  go_wp2_with fail
  refine (i_customers A n c l w1 (hr0.below hb1) (by omega)).mono ?_
  rintro e w2 ⟨g, m, c', rfl, hgl, hb2⟩
  have hm9 : m ≤ 9 := by
    have h1 := names_len (l.map fun x => x.fWho)
    have h2 := hgl.len
    have h3 := HO.out.few
    rw [List.length_map] at h1
    omega
  have hgl2 := Lib.hid (hgl.mono hb1.size)
  have hbS := Lib.hid (hb1.trans (hb2.mono hb1.size))
  have hns := Lib.hid (names_asc (l.map fun x => x.fWho))
  have HR0 := Lib.hid hr0
  clear hgl hb1 hb2 hq1 hr0 hq
  go_wp2_with fail
  refine (i_SortStable g m c' w.heap.size n c A l _ W0 w2 HQ.out HR0.out HO.out hm9 hns.out hgl2.out hbS.out).mono ?_
  rintro e w3 ⟨rfl, L, hp, hs, hgl3, hb3⟩
  have HP := Lib.hid hp
  have HS := Lib.hid hs
  have hcap := hgl3.cap
  have hmc := hcap.1
  have hc2 := hcap.2
  unfold maxLen at hc2
  have hmin : min (m : Int) 32 = (m : Int) := by omega
  have hrd := hgl3.rd
  clear hp hs hcap hgl2 hbS hns
  go_wp2_with fail
  refine (i_cloneS _ m c' L w3 hrd (by omega)).mono ?_
  rintro e w4 ⟨g2, rfl, hgl4, hb4⟩
  have hbF := hb0.trans ((hb3.trans (hb4.mono hb3.size)).mono hb0.size)
  have hsz := hb3.size
  go_wp2
  go_ret2
  exact ⟨_, m, m, L, HP.out, HS.out, rfl, hgl4.mono (by have := HZ.out; omega), hbF⟩
end Go.Proofs.YtbgmhlbcohdobaaGreatDoor

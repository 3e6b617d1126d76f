/- Grants with one more. -/
import Derived.Test.YtepegiklnhoobaaRows
import Derived.Test.YtepegiklnhoobaaGrants
import Derived.Test.YtepegiklnhoobaaGrantsI
import Derived.Test.YtepegiklnhoobaaSlGrant
import Derived.Test.YtepegiklnhoobaaRevoke
import Derived.Deep.RegionHeld3
namespace Go.Proofs.Ytepegiklnhoobaa
set_option linter.unusedVariables false
set_option linter.unusedSimpArgs false
set_option linter.unusedSectionVars false
open Go.RowKit

noncomputable def addCode (rl : List DRole) (l : List DGrant) (x : DGrant) : Int := if grantsB rl l then (if okG rl x then (if foundG l x (posG l x) then 4 else if l.length = 48 then 5 else 0) else 2) else 1
noncomputable def addList (rl : List DRole) (l : List DGrant) (x : DGrant) : List DGrant := if addCode rl l x = 0 then l.take (posG l x) ++ [x] ++ l.drop (posG l x) else []
theorem add_bad {rl : List DRole} {l : List DGrant} {x : DGrant} (h : grantsB rl l = false) : addList rl l x = [] ∧ addCode rl l x = 1 := by
  have : addCode rl l x = 1 := by unfold addCode; rw [h]; rfl
  exact ⟨by unfold addList; rw [this, if_neg (by decide)], this⟩
theorem add_range {rl : List DRole} {l : List DGrant} {x : DGrant} (h : grantsB rl l = true) (h2 : okG rl x = false) : addList rl l x = [] ∧ addCode rl l x = 2 := by
  have : addCode rl l x = 2 := by unfold addCode; rw [h, h2]; rfl
  exact ⟨by unfold addList; rw [this, if_neg (by decide)], this⟩
theorem add_there {rl : List DRole} {l : List DGrant} {x : DGrant} (h : grantsB rl l = true) (h2 : okG rl x = true) (h3 : foundG l x (posG l x) = true) : addList rl l x = [] ∧ addCode rl l x = 4 := by
  have : addCode rl l x = 4 := by unfold addCode; rw [h, h2, h3]; rfl
  exact ⟨by unfold addList; rw [this, if_neg (by decide)], this⟩
theorem add_full {rl : List DRole} {l : List DGrant} {x : DGrant} (h : grantsB rl l = true) (h2 : okG rl x = true) (h3 : foundG l x (posG l x) = false) (h4 : l.length = 48) : addList rl l x = [] ∧ addCode rl l x = 5 := by
  have : addCode rl l x = 5 := by unfold addCode; rw [h, h2, h3, if_pos rfl, if_pos rfl, if_neg (by decide), if_pos h4]
  exact ⟨by unfold addList; rw [this, if_neg (by decide)], this⟩
theorem add_new {rl : List DRole} {l : List DGrant} {x : DGrant} {p : Nat} (h : grantsB rl l = true) (h2 : okG rl x = true) (hp : posG l x = p) (h3 : foundG l x p = false) (h4 : l.length ≠ 48) : addList rl l x = l.take p ++ [x] ++ l.drop p ∧ addCode rl l x = 0 := by
  subst hp
  have : addCode rl l x = 0 := by unfold addCode; rw [h, h2, h3, if_pos rfl, if_pos rfl, if_neg (by decide), if_neg h4]
  exact ⟨by unfold addList; rw [this, if_pos rfl], this⟩
theorem foundG_eq {l : List DGrant} {x y : DGrant} {p : Nat} (hy : l[p]? = some y) : foundG l x p = y.eqv x := by
  unfold foundG
  rw [hy, Bool.eq_iff_iff, DGrant.eqv_iff, decide_eq_true_eq, cmpGr_zero]
theorem foundG_none {l : List DGrant} {x : DGrant} {p : Nat} (h : l.length ≤ p) : foundG l x p = false := by
  unfold foundG
  rw [List.getElem?_eq_none h]

theorem w64_in (n : Int) (h : -9223372036854775808 ≤ n ∧ n ≤ 9223372036854775807) : wrap64 n = n := by unfold wrap64; omega
theorem u64_in (n : Int) (h : 0 ≤ n ∧ n ≤ 18446744073709551615) : IntKind.u64.wrap n = n := by
  simp [IntKind.wrap, IntKind.bits, IntKind.signed]
  omega
theorem OL.shape {α : Type} {E : Enc α} {et : TypeId} {F : Nat → Prop} {w : World} {A : Option Addr} {n c : Nat} {l : List α} (h : OL E et F w A n c l) : (A = none ∧ c = 0) ∨ ∃ g, A = some ⟨g, 0, none⟩ := by
  rcases h.1.2 with ⟨e, _⟩ | ⟨g, cap, cur, e, _⟩
  · cases e; exact .inl ⟨rfl, rfl⟩
  · cases e; exact .inr ⟨g, rfl⟩
/-- s[:k] and s[k:] -/
theorem run_headS {P : Program} (W : World) (t e : TypeId) (s : Nat) (ht : P.underlying t = some (.slice e)) (hz : ∀ w, (Go.sizeOf e).run P w = .ok s w) (A : Option Addr) (n c k : Nat) (hkc : k ≤ c) :
    (Instr.slice t (.slice A n c) none (some (.int .i64 (k : Int))) none).run P W = .ok (.slice A k c) W := by
  have ht' : P.underlying t = some (.slice (P.elem t)) := by simp [Program.elem, ht]
  have he : P.elem t = e := by simp [Program.elem, ht]
  rw [run_slice_h W t _ _ _ ht' .i64 _ (by omega) (by omega), he, hz]
  cases A <;> simp [Result.andThen, sliced, Addr.add]
theorem run_restS {P : Program} (W : World) (t e : TypeId) (s : Nat) (ht : P.underlying t = some (.slice e)) (hz : ∀ w, (Go.sizeOf e).run P w = .ok s w) (A : Option Addr) (n c k : Nat) (hkn : k ≤ n) (hnc : n ≤ c) :
    (Instr.slice t (.slice A n c) (some (.int .i64 (k : Int))) none none).run P W = .ok (.slice (if c = k then A else A.map (·.add (k * s))) (n - k) (c - k)) W := by
  have ht' : P.underlying t = some (.slice (P.elem t)) := by simp [Program.elem, ht]
  have he : P.elem t = e := by simp [Program.elem, ht]
  rw [run_slice_l W t _ _ _ ht' .i64 _ (by omega) (by omega), he, hz]
  simp [Result.andThen, sliced]
set_option maxRecDepth 100000 in
set_option maxHeartbeats 4000000 in
theorem i_BinSearchG (A : Option Addr) (n c : Nat) (l : List DGrant) (key : DGrant) (p : Nat) (w : World) (hr : Rd grantE w A n l) (hn : n ≤ 8388608) (hp : PartsG l key p) (hxa : ∀ x ∈ l, -4611686018427387904 ≤ x.fAction ∧ x.fAction ≤ 4611686018427387903) (hka : -4611686018427387904 ≤ key.fAction ∧ key.fAction ≤ 4611686018427387903) :
    Calls Try.prog 82 #[.slice A n c, .agg #[.string key.fRole, .string key.fObject, .int .i64 key.fAction], .func (.func 67) #[] #[]] w fun e w' => e = .returned (.tuple #[.int .i64 p, .bool (foundG l key p)]) ∧ Below w.heap.size w w' := by
  have Hl := Lib.hid hr.1
  have hpn : p ≤ n := by have := hp.le; rw [Hl.out] at this; exact this
  have HP := Lib.hid hp; clear hp
  have HXA := Lib.hid hxa
  have HKA := Lib.hid hka
  clear hxa hka
  have hcx := range_new w #[.string key.fRole, .string key.fObject, .int .i64 key.fAction] 50
  have hx0 := hcx 0 (.string key.fRole) rfl
  have hx1 := hcx 1 (.string key.fObject) rfl
  have hx2 := hcx 2 (.int .i64 key.fAction) rfl
  simp only [Nat.zero_add] at hx0 hx1 hx2
  have hb0 : Below w.heap.size w (w.alloc (.cells #[.string key.fRole, .string key.fObject, .int .i64 key.fAction] 50)) := by (repeat (first | exact Below.refl _ _ | assumption | refine Below.drew ?_ | refine Below.alloc ?_ (by first | omega | (simp; done) | (simp; omega) | exact Below.size (by assumption)) _ | refine Below.setCell ?_ (by first | omega | (simp; done) | (simp; omega)) _))
  clear hcx
  go_enter Try.func82, Try.ntmps82
  go_wp2_with fail
  go_loopw [9, 10] (fun i j wr => ∃ (a z : Nat), a ≤ p ∧ p ≤ z ∧ z ≤ n ∧ i = .int .i64 a ∧ j = .int .i64 z ∧ Below w.heap.size w wr ∧ wr.cell? ⟨w.heap.size, 0, none⟩ = some (.string key.fRole) ∧ wr.cell? ⟨w.heap.size, 1, none⟩ = some (.string key.fObject) ∧ wr.cell? ⟨w.heap.size, 2, none⟩ = some (.int .i64 key.fAction)) (fun i j _ => (intOf j).toNat - (intOf i).toNat)
  case atStart => exact ⟨0, n, Nat.zero_le _, hpn, Nat.le_refl _, rfl, rfl, hb0, hx0, hx1, hx2⟩
  case round =>
    obtain ⟨a, z, ha, hz, hzn, rfl, rfl, hb, hk0, hk1, hk2⟩ := hrel
    by_cases hlt : a < z
    · obtain ⟨m, hm⟩ : ∃ m, (a + z) / 2 = m := ⟨_, rfl⟩
      have hm1 : a ≤ m := by omega
      have hm2 : m < z := by omega
      obtain ⟨b, off, rfl, hcs⟩ := hr.2 (by omega)
      obtain ⟨x, hx⟩ : ∃ x, l[m]? = some x := ⟨_, List.getElem?_eq_getElem (by have := Hl.out; omega)⟩
      have HX0 := Lib.hid hx
      have hcr := range_below (B := 0) (hcs m x hx) hb
      have hc0 := hcr 0 (.string x.fRole) rfl
      have hc1 := hcr 1 (.string x.fObject) rfl
      have hc2 := hcr 2 (.int .i64 x.fAction) rfl
      simp only [grantE, Nat.add_zero] at hc0 hc1 hc2
      clear hcr hcs
      have hM : Hid (∀ W, Calls Try.prog 67 #[.agg #[.string x.fRole, .string x.fObject, .int .i64 x.fAction], .agg #[.string key.fRole, .string key.fObject, .int .i64 key.fAction]] W fun e w' => e = .returned (.int .i64 (cmpGr x key)) ∧ Below W.heap.size W w') := Lib.hid (fun W => i_Grant_compare x key W (HXA.out x (mem_of_get HX0.out)) HKA.out)
      have hmm : wrap64 (IntKind.u64.wrap (wrap64 ((a : Int) + z)) / 2) = m := by
        rw [w64_in ((a : Int) + z) (by omega), u64_in ((a : Int) + z) (by omega), w64_in (((a : Int) + z) / 2) (by omega)]
        omega
      by_cases hlt0 : cmpGr x key < 0
      · have hmp : m < p := by rcases Nat.lt_or_ge m p with h | h; exact h; exact absurd hlt0 (HP.out.hi m x h hx)
        clear hx
        go_wp2_with fail
        let S : World → Prop := fun w' => w'.cell? ⟨w.heap.size, 0, none⟩ = some (.string key.fRole) ∧ w'.cell? ⟨w.heap.size, 1, none⟩ = some (.string key.fObject) ∧ w'.cell? ⟨w.heap.size, 2, none⟩ = some (.int .i64 key.fAction) ∧ w'.cell? ⟨b, off + m * 3, none⟩ = some (.string x.fRole) ∧ w'.cell? ⟨b, off + m * 3 + 1, none⟩ = some (.string x.fObject) ∧ w'.cell? ⟨b, off + m * 3 + 2, none⟩ = some (.int .i64 x.fAction) ∧ Below w.heap.size w w'
        have hS : S (World.drew wr) := ⟨hk0, hk1, hk2, hc0, hc1, hc2, (hb).drew⟩
        have hne : Nonempty (Wd S) := ⟨⟨_, hS⟩⟩
        have qc0 : ∀ t : Wd S, t.w.cell? ⟨w.heap.size, 0, none⟩ = some (.string key.fRole) := fun t => t.h.1
        have qc1 : ∀ t : Wd S, t.w.cell? ⟨w.heap.size, 1, none⟩ = some (.string key.fObject) := fun t => t.h.2.1
        have qc2 : ∀ t : Wd S, t.w.cell? ⟨w.heap.size, 2, none⟩ = some (.int .i64 key.fAction) := fun t => t.h.2.2.1
        have qc3 : ∀ t : Wd S, t.w.cell? ⟨b, off + m * 3, none⟩ = some (.string x.fRole) := fun t => t.h.2.2.2.1
        have qc4 : ∀ t : Wd S, t.w.cell? ⟨b, off + m * 3 + 1, none⟩ = some (.string x.fObject) := fun t => t.h.2.2.2.2.1
        have qc5 : ∀ t : Wd S, t.w.cell? ⟨b, off + m * 3 + 2, none⟩ = some (.int .i64 x.fAction) := fun t => t.h.2.2.2.2.2.1
        have Q9 : Hid (∀ (t : Wd S) (w' : World), Below t.w.heap.size t.w w' → S w') := Lib.hid (fun t w' h => ⟨cell_later h t.h.1, cell_later h t.h.2.1, cell_later h t.h.2.2.1, cell_later h t.h.2.2.2.1, cell_later h t.h.2.2.2.2.1, cell_later h t.h.2.2.2.2.2.1, t.h.2.2.2.2.2.2.trans (h.mono t.h.2.2.2.2.2.2.size)⟩)
        have QE : Hid (∀ w', S w' → w'.cell? ⟨w.heap.size, 0, none⟩ = some (.string key.fRole) ∧ w'.cell? ⟨w.heap.size, 1, none⟩ = some (.string key.fObject) ∧ w'.cell? ⟨w.heap.size, 2, none⟩ = some (.int .i64 key.fAction) ∧ w'.cell? ⟨b, off + m * 3, none⟩ = some (.string x.fRole) ∧ w'.cell? ⟨b, off + m * 3 + 1, none⟩ = some (.string x.fObject) ∧ w'.cell? ⟨b, off + m * 3 + 2, none⟩ = some (.int .i64 x.fAction) ∧ Below w.heap.size w w') := Lib.hid (fun w' h => h)
        refine wp_region_class S (by kernel_rfl) (by kernel_rfl) hS ?_
        clear_value S
        repeat (go_big_quiet_step ((first | (go_at_call 67; exact class_call _ (hM.out _) (fun e w' h => ⟨h.1, Q9.out _ _ h.2⟩)))))
        refine wpQuiet_nil ?_
        rintro _ ⟨⟨w1, hw1⟩, rfl⟩
        obtain ⟨hk0', hk1', hk2', hcc0, hcc1, hcc2, hb2⟩ := QE.out _ hw1
        try dsimp only
        clear hw1 hS hne Q9 QE qc0 qc1 qc2 qc3 qc4 qc5
        clear hcc0 hcc1 hcc2 hk0 hk1 hk2 hc0 hc1 hc2
        go_wp2
        first | (refine ⟨⟨m + 1, z, by omega, by omega, by omega, by go_num, rfl, hb2, hk0', hk1', hk2'⟩, ?_⟩; (simp [intOf]; omega)) | (go_roundw; (case rel => first | exact ⟨m + 1, z, by omega, by omega, by omega, by go_num, rfl, hb2, hk0', hk1', hk2'⟩ | ((try refine ⟨trivial, ?_⟩); (repeat apply Exists.intro); exact ⟨⟨m + 1, z, by omega, by omega, by omega, by go_num, rfl, hb2, hk0', hk1', hk2'⟩, rfl⟩)); (case measure => (simp [intOf]; omega)))
      · have hmp : p ≤ m := by rcases Nat.lt_or_ge m p with h | h; exact absurd (HP.out.lo m x h hx) hlt0; exact h
        clear hx
        go_wp2_with fail
        let S : World → Prop := fun w' => w'.cell? ⟨w.heap.size, 0, none⟩ = some (.string key.fRole) ∧ w'.cell? ⟨w.heap.size, 1, none⟩ = some (.string key.fObject) ∧ w'.cell? ⟨w.heap.size, 2, none⟩ = some (.int .i64 key.fAction) ∧ w'.cell? ⟨b, off + m * 3, none⟩ = some (.string x.fRole) ∧ w'.cell? ⟨b, off + m * 3 + 1, none⟩ = some (.string x.fObject) ∧ w'.cell? ⟨b, off + m * 3 + 2, none⟩ = some (.int .i64 x.fAction) ∧ Below w.heap.size w w'
        have hS : S (World.drew wr) := ⟨hk0, hk1, hk2, hc0, hc1, hc2, (hb).drew⟩
        have hne : Nonempty (Wd S) := ⟨⟨_, hS⟩⟩
        have qc0 : ∀ t : Wd S, t.w.cell? ⟨w.heap.size, 0, none⟩ = some (.string key.fRole) := fun t => t.h.1
        have qc1 : ∀ t : Wd S, t.w.cell? ⟨w.heap.size, 1, none⟩ = some (.string key.fObject) := fun t => t.h.2.1
        have qc2 : ∀ t : Wd S, t.w.cell? ⟨w.heap.size, 2, none⟩ = some (.int .i64 key.fAction) := fun t => t.h.2.2.1
        have qc3 : ∀ t : Wd S, t.w.cell? ⟨b, off + m * 3, none⟩ = some (.string x.fRole) := fun t => t.h.2.2.2.1
        have qc4 : ∀ t : Wd S, t.w.cell? ⟨b, off + m * 3 + 1, none⟩ = some (.string x.fObject) := fun t => t.h.2.2.2.2.1
        have qc5 : ∀ t : Wd S, t.w.cell? ⟨b, off + m * 3 + 2, none⟩ = some (.int .i64 x.fAction) := fun t => t.h.2.2.2.2.2.1
        have Q9 : Hid (∀ (t : Wd S) (w' : World), Below t.w.heap.size t.w w' → S w') := Lib.hid (fun t w' h => ⟨cell_later h t.h.1, cell_later h t.h.2.1, cell_later h t.h.2.2.1, cell_later h t.h.2.2.2.1, cell_later h t.h.2.2.2.2.1, cell_later h t.h.2.2.2.2.2.1, t.h.2.2.2.2.2.2.trans (h.mono t.h.2.2.2.2.2.2.size)⟩)
        have QE : Hid (∀ w', S w' → w'.cell? ⟨w.heap.size, 0, none⟩ = some (.string key.fRole) ∧ w'.cell? ⟨w.heap.size, 1, none⟩ = some (.string key.fObject) ∧ w'.cell? ⟨w.heap.size, 2, none⟩ = some (.int .i64 key.fAction) ∧ w'.cell? ⟨b, off + m * 3, none⟩ = some (.string x.fRole) ∧ w'.cell? ⟨b, off + m * 3 + 1, none⟩ = some (.string x.fObject) ∧ w'.cell? ⟨b, off + m * 3 + 2, none⟩ = some (.int .i64 x.fAction) ∧ Below w.heap.size w w') := Lib.hid (fun w' h => h)
        refine wp_region_class S (by kernel_rfl) (by kernel_rfl) hS ?_
        clear_value S
        repeat (go_big_quiet_step ((first | (go_at_call 67; exact class_call _ (hM.out _) (fun e w' h => ⟨h.1, Q9.out _ _ h.2⟩)))))
        refine wpQuiet_nil ?_
        rintro _ ⟨⟨w1, hw1⟩, rfl⟩
        obtain ⟨hk0', hk1', hk2', hcc0, hcc1, hcc2, hb2⟩ := QE.out _ hw1
        try dsimp only
        clear hw1 hS hne Q9 QE qc0 qc1 qc2 qc3 qc4 qc5
        clear hcc0 hcc1 hcc2 hk0 hk1 hk2 hc0 hc1 hc2
        go_wp2
        first | (refine ⟨⟨a, m, by omega, by omega, by omega, rfl, by congr 1; omega, hb2, hk0', hk1', hk2'⟩, ?_⟩; (simp [intOf]; omega)) | (go_roundw; (case rel => first | exact ⟨a, m, by omega, by omega, by omega, rfl, by congr 1; omega, hb2, hk0', hk1', hk2'⟩ | ((try refine ⟨trivial, ?_⟩); (repeat apply Exists.intro); exact ⟨⟨a, m, by omega, by omega, by omega, rfl, by congr 1; omega, hb2, hk0', hk1', hk2'⟩, rfl⟩)); (case measure => (simp [intOf]; omega)))
    · obtain rfl : a = p := by omega
      obtain rfl : z = a := by omega
      by_cases hpn' : z < n
      · obtain ⟨b, off, rfl, hcs⟩ := hr.2 (by omega)
        obtain ⟨x, hx⟩ : ∃ x, l[z]? = some x := ⟨_, List.getElem?_eq_getElem (by have := Hl.out; omega)⟩
        have HX0 := Lib.hid hx
        have hcr := range_below (B := 0) (hcs z x hx) hb
        have hc0 := hcr 0 (.string x.fRole) rfl
        have hc1 := hcr 1 (.string x.fObject) rfl
        have hc2 := hcr 2 (.int .i64 x.fAction) rfl
        simp only [grantE, Nat.add_zero] at hc0 hc1 hc2
        have HF : Hid (foundG l key z = decide (cmpGr x key = 0)) := Lib.hid (by unfold foundG; rw [hx])
        clear hcr hcs hx
        have hM : Hid (∀ W, Calls Try.prog 67 #[.agg #[.string x.fRole, .string x.fObject, .int .i64 x.fAction], .agg #[.string key.fRole, .string key.fObject, .int .i64 key.fAction]] W fun e w' => e = .returned (.int .i64 (cmpGr x key)) ∧ Below W.heap.size W w') := Lib.hid (fun W => i_Grant_compare x key W (HXA.out x (mem_of_get HX0.out)) HKA.out)
        by_cases h0 : cmpGr x key = 0
        · rw [h0] at hM
          have HF' : Hid (foundG l key z = true) := Lib.hid (by rw [HF.out, decide_eq_true h0])
          clear HF h0
          go_wp2_with fail
          let S : World → Prop := fun w' => w'.cell? ⟨w.heap.size, 0, none⟩ = some (.string key.fRole) ∧ w'.cell? ⟨w.heap.size, 1, none⟩ = some (.string key.fObject) ∧ w'.cell? ⟨w.heap.size, 2, none⟩ = some (.int .i64 key.fAction) ∧ w'.cell? ⟨b, off + z * 3, none⟩ = some (.string x.fRole) ∧ w'.cell? ⟨b, off + z * 3 + 1, none⟩ = some (.string x.fObject) ∧ w'.cell? ⟨b, off + z * 3 + 2, none⟩ = some (.int .i64 x.fAction) ∧ Below w.heap.size w w'
          have hS : S (World.drew wr) := ⟨hk0, hk1, hk2, hc0, hc1, hc2, (hb).drew⟩
          have hne : Nonempty (Wd S) := ⟨⟨_, hS⟩⟩
          have qc0 : ∀ t : Wd S, t.w.cell? ⟨w.heap.size, 0, none⟩ = some (.string key.fRole) := fun t => t.h.1
          have qc1 : ∀ t : Wd S, t.w.cell? ⟨w.heap.size, 1, none⟩ = some (.string key.fObject) := fun t => t.h.2.1
          have qc2 : ∀ t : Wd S, t.w.cell? ⟨w.heap.size, 2, none⟩ = some (.int .i64 key.fAction) := fun t => t.h.2.2.1
          have qc3 : ∀ t : Wd S, t.w.cell? ⟨b, off + z * 3, none⟩ = some (.string x.fRole) := fun t => t.h.2.2.2.1
          have qc4 : ∀ t : Wd S, t.w.cell? ⟨b, off + z * 3 + 1, none⟩ = some (.string x.fObject) := fun t => t.h.2.2.2.2.1
          have qc5 : ∀ t : Wd S, t.w.cell? ⟨b, off + z * 3 + 2, none⟩ = some (.int .i64 x.fAction) := fun t => t.h.2.2.2.2.2.1
          have Q9 : Hid (∀ (t : Wd S) (w' : World), Below t.w.heap.size t.w w' → S w') := Lib.hid (fun t w' h => ⟨cell_later h t.h.1, cell_later h t.h.2.1, cell_later h t.h.2.2.1, cell_later h t.h.2.2.2.1, cell_later h t.h.2.2.2.2.1, cell_later h t.h.2.2.2.2.2.1, t.h.2.2.2.2.2.2.trans (h.mono t.h.2.2.2.2.2.2.size)⟩)
          have QE : Hid (∀ w', S w' → w'.cell? ⟨w.heap.size, 0, none⟩ = some (.string key.fRole) ∧ w'.cell? ⟨w.heap.size, 1, none⟩ = some (.string key.fObject) ∧ w'.cell? ⟨w.heap.size, 2, none⟩ = some (.int .i64 key.fAction) ∧ w'.cell? ⟨b, off + z * 3, none⟩ = some (.string x.fRole) ∧ w'.cell? ⟨b, off + z * 3 + 1, none⟩ = some (.string x.fObject) ∧ w'.cell? ⟨b, off + z * 3 + 2, none⟩ = some (.int .i64 x.fAction) ∧ Below w.heap.size w w') := Lib.hid (fun w' h => h)
          refine wp_region_class S (by kernel_rfl) (by kernel_rfl) hS ?_
          clear_value S
          repeat (go_big_quiet_step ((first | (go_at_call 67; exact class_call _ (hM.out _) (fun e w' h => ⟨h.1, Q9.out _ _ h.2⟩)))))
          refine wpQuiet_nil ?_
          rintro _ ⟨⟨w1, hw1⟩, rfl⟩
          have hE := QE.out _ hw1
          have hb2 := hE.2.2.2.2.2.2
          clear hE
          try dsimp only
          clear hw1 hS hne Q9 QE qc0 qc1 qc2 qc3 qc4 qc5
          go_wp2
          go_ret2
          exact ⟨by rw [HF'.out]; rfl, hb2⟩
        · have h0' : (cmpGr x key == 0) = false := by rw [beq_eq_false_iff_ne]; exact h0
          have HF' : Hid (foundG l key z = false) := Lib.hid (by rw [HF.out, decide_eq_false h0])
          clear HF h0
          go_wp2_with fail
          let S : World → Prop := fun w' => w'.cell? ⟨w.heap.size, 0, none⟩ = some (.string key.fRole) ∧ w'.cell? ⟨w.heap.size, 1, none⟩ = some (.string key.fObject) ∧ w'.cell? ⟨w.heap.size, 2, none⟩ = some (.int .i64 key.fAction) ∧ w'.cell? ⟨b, off + z * 3, none⟩ = some (.string x.fRole) ∧ w'.cell? ⟨b, off + z * 3 + 1, none⟩ = some (.string x.fObject) ∧ w'.cell? ⟨b, off + z * 3 + 2, none⟩ = some (.int .i64 x.fAction) ∧ Below w.heap.size w w'
          have hS : S (World.drew wr) := ⟨hk0, hk1, hk2, hc0, hc1, hc2, (hb).drew⟩
          have hne : Nonempty (Wd S) := ⟨⟨_, hS⟩⟩
          have qc0 : ∀ t : Wd S, t.w.cell? ⟨w.heap.size, 0, none⟩ = some (.string key.fRole) := fun t => t.h.1
          have qc1 : ∀ t : Wd S, t.w.cell? ⟨w.heap.size, 1, none⟩ = some (.string key.fObject) := fun t => t.h.2.1
          have qc2 : ∀ t : Wd S, t.w.cell? ⟨w.heap.size, 2, none⟩ = some (.int .i64 key.fAction) := fun t => t.h.2.2.1
          have qc3 : ∀ t : Wd S, t.w.cell? ⟨b, off + z * 3, none⟩ = some (.string x.fRole) := fun t => t.h.2.2.2.1
          have qc4 : ∀ t : Wd S, t.w.cell? ⟨b, off + z * 3 + 1, none⟩ = some (.string x.fObject) := fun t => t.h.2.2.2.2.1
          have qc5 : ∀ t : Wd S, t.w.cell? ⟨b, off + z * 3 + 2, none⟩ = some (.int .i64 x.fAction) := fun t => t.h.2.2.2.2.2.1
          have Q9 : Hid (∀ (t : Wd S) (w' : World), Below t.w.heap.size t.w w' → S w') := Lib.hid (fun t w' h => ⟨cell_later h t.h.1, cell_later h t.h.2.1, cell_later h t.h.2.2.1, cell_later h t.h.2.2.2.1, cell_later h t.h.2.2.2.2.1, cell_later h t.h.2.2.2.2.2.1, t.h.2.2.2.2.2.2.trans (h.mono t.h.2.2.2.2.2.2.size)⟩)
          have QE : Hid (∀ w', S w' → w'.cell? ⟨w.heap.size, 0, none⟩ = some (.string key.fRole) ∧ w'.cell? ⟨w.heap.size, 1, none⟩ = some (.string key.fObject) ∧ w'.cell? ⟨w.heap.size, 2, none⟩ = some (.int .i64 key.fAction) ∧ w'.cell? ⟨b, off + z * 3, none⟩ = some (.string x.fRole) ∧ w'.cell? ⟨b, off + z * 3 + 1, none⟩ = some (.string x.fObject) ∧ w'.cell? ⟨b, off + z * 3 + 2, none⟩ = some (.int .i64 x.fAction) ∧ Below w.heap.size w w') := Lib.hid (fun w' h => h)
          refine wp_region_class S (by kernel_rfl) (by kernel_rfl) hS ?_
          clear_value S
          repeat (go_big_quiet_step ((first | (go_at_call 67; exact class_call _ (hM.out _) (fun e w' h => ⟨h.1, Q9.out _ _ h.2⟩)))))
          refine wpQuiet_nil ?_
          rintro _ ⟨⟨w1, hw1⟩, rfl⟩
          have hE := QE.out _ hw1
          have hb2 := hE.2.2.2.2.2.2
          clear hE
          try dsimp only
          clear hw1 hS hne Q9 QE qc0 qc1 qc2 qc3 qc4 qc5
          go_wp2
          go_ret2
          exact ⟨by rw [HF'.out]; rfl, hb2⟩
      · have HF' : Hid (foundG l key z = false) := Lib.hid (by unfold foundG; rw [List.getElem?_eq_none (by have := Hl.out; omega)])
        go_wp2_with fail
        go_quiet (fail)
        go_wp2
        go_ret2
        exact ⟨by rw [HF'.out]; rfl, below_drewN hb _⟩
end Go.Proofs.Ytepegiklnhoobaa

/- Roles: the program's search, its list of work and its test. -/
import Derived.Test.YtepegiklnhoobaaRows
import Derived.Test.YtepegiklnhoobaaCRole
import Derived.Test.YtepegiklnhoobaaRoleLaw
import Derived.Test.YtepegiklnhoobaaOrd
import Derived.Test.YtepegiklnhoobaaNames
import Derived.Test.YtepegiklnhoobaaRolesS
import Derived.Test.YtepegiklnhoobaaCount
import Derived.Test.YtepegiklnhoobaaTail
import Derived.Test.YtepegiklnhoobaaShelf
namespace Go.Proofs.Ytepegiklnhoobaa
set_option linter.unusedVariables false
set_option linter.unusedSimpArgs false
set_option linter.unusedSectionVars false
open Go.RowKit

theorem i_roleOf1 (x : DRole) (A : Option Addr) (n c q : Nat) (nm : ByteArray) (w : World) (hq : w.cell? ⟨q, 0, none⟩ = some (.string nm)) :
    Calls Try.prog 90 #[.agg #[.string x.name, .slice A n c], .pointer (some ⟨q, 0, none⟩)] w fun e w' => e = .returned (.bool (x.name.toList == nm.toList)) ∧ Below w.heap.size w w' := by
  have hlt := World.block_lt_of_cell? w _ hq
  have hq1 := fun o => (World.cell?_alloc_lt w o _ hlt).trans hq
  go_enter Try.func90, Try.ntmps90
  go_wp2
  go_ret
  exact ⟨rfl, by (repeat (first | exact Below.refl _ _ | assumption | refine Below.drew ?_ | refine Below.alloc ?_ (by first | omega | (simp; done) | (simp; omega) | exact Below.size (by assumption)) _ | refine Below.setCell ?_ (by first | omega | (simp; done) | (simp; omega)) _))⟩
set_option maxHeartbeats 1000000 in
theorem i_IndexRole (A : Option Addr) (n c q : Nat) (l : List DRole) (nm : ByteArray) (w : World) (hr : RdRole w A n l) (hn : n ≤ 1048576) (hq : w.cell? ⟨q, 0, none⟩ = some (.string nm)) :
    Calls Try.prog 89 #[.slice A n c, .func (.func 90) #[] #[.pointer (some ⟨q, 0, none⟩)]] w fun e w' => e = .returned (.int .i64 (fnd l nm)) ∧ Below w.heap.size w w' := by
  have Hl := Lib.hid hr.len
  go_enter Try.func89, Try.ntmps89
  go_wp2_with fail
  go_loopw [8] (fun i wr => ∃ k : Nat, k ≤ n ∧ i = .int .i64 k ∧ Below w.heap.size w wr ∧ Hid (∀ (j : Nat) (x : DRole), j < k → l[j]? = some x → ¬ x.name = nm)) (fun i _ => n - (intOf i).toNat)
  case atStart => exact ⟨0, Nat.zero_le _, rfl, Below.refl _ _, Lib.hid (fun j x h => absurd h (Nat.not_lt_zero _))⟩
  case round =>
    obtain ⟨k, hk, rfl, hb, HH⟩ := hrel
    by_cases hlt : k < n
    · obtain ⟨b, off, x, A', n', c', rfl, hx, hc, hru⟩ := hr.get hlt
      have hc0 := range_below (B := 0) hc hb 0 (.string x.name) rfl
      have hc1 := range_below (B := 0) hc hb 1 _ rfl
      simp only [Nat.add_zero] at hc0 hc1
      have HX := Lib.hid hx
      have hq' := cell_later hb hq
      clear hc hx hru
      rcases h1 : x.name.toList == nm.toList with _ | _
      · have HN : Hid (∀ (j : Nat) (y : DRole), j < k + 1 → l[j]? = some y → ¬ y.name = nm) := Lib.hid (fun j y hj hy => by
          rcases Nat.lt_or_ge j k with h | h
          · exact HH.out j y h hy
          · obtain rfl : j = k := by omega
            rw [HX.out] at hy; cases hy
            rw [eqS_iff] at h1
            exact of_decide_eq_false h1)
        have hcall := i_roleOf1 x A' n' c' q nm wr hq'
        rw [h1] at hcall
        go_wp2_with fail
        refine hcall.mono ?_
        rintro e w1 ⟨rfl, hb1⟩
        have hb2 := hb.trans (hb1.mono hb.size)
        clear hcall
        go_wp2
        first | (refine ⟨⟨k + 1, by omega, by go_num, hb2, HN⟩, ?_⟩; (simp [intOf]; omega)) | (go_roundw; (case rel => first | exact ⟨k + 1, by omega, by go_num, hb2, HN⟩ | ((try refine ⟨trivial, ?_⟩); (repeat apply Exists.intro); exact ⟨⟨k + 1, by omega, by go_num, hb2, HN⟩, rfl⟩)); (case measure => (simp [intOf]; omega)))
      · have E : Hid (fnd l nm = k) := Lib.hid (fnd_at HX.out (by rw [eqS_iff] at h1; exact of_decide_eq_true h1) HH.out)
        have hcall := i_roleOf1 x A' n' c' q nm wr hq'
        rw [h1] at hcall
        go_wp2_with fail
        refine hcall.mono ?_
        rintro e w1 ⟨rfl, hb1⟩
        have hb2 := hb.trans (hb1.mono hb.size)
        clear hcall
        go_wp2
        go_ret
        exact ⟨ret_int E.out.symm, hb2⟩
    · have E : Hid (fnd l nm = -1) := Lib.hid (fnd_none (fun i x hx => HH.out i x (by have := (List.getElem?_eq_some_iff.1 hx).1; have := Hl.out; omega) hx))
      go_wp2
      go_ret
      exact ⟨ret_int E.out.symm, hb⟩
set_option maxHeartbeats 1000000 in
theorem i_roleOf (A : Option Addr) (n c : Nat) (l : List DRole) (nm : ByteArray) (w : World) (hr : RdRole w A n l) (hn : n ≤ 1048576) :
    Calls Try.prog 57 #[.slice A n c, .string nm] w fun e w' => e = .returned (.int .i64 (fnd l nm)) ∧ Below w.heap.size w w' := by
  have hcx := range_new w #[.string nm] 9
  have hb0 : Below w.heap.size w (w.alloc (.cells #[.string nm] 9)) := (Below.refl _ _).alloc (Nat.le_refl _) _
  go_enter Try.func57, Try.ntmps57
  go_wp2_with fail
  refine (i_IndexRole A n c _ l nm _ (hr.below hb0) hn (hcx 0 _ rfl)).mono ?_
  rintro e w1 ⟨rfl, hb⟩
  go_wp2
  go_ret
  exact ⟨rfl, hb0.trans (hb.mono hb0.size)⟩

theorem i_ContainsS (A : Option Addr) (n c : Nat) (l : List ByteArray) (u : ByteArray) (w : World) (hr : Rd strE w A n l) (hn : n ≤ 4194304) :
    Calls Try.prog 58 #[.slice A n c, .string u] w fun e w' => e = .returned (.bool (isIn l u)) ∧ w = w' := by
  by_cases h0 : n = 0
  · subst h0
    have hl : l = [] := List.eq_nil_of_length_eq_zero hr.1
    subst hl
    exact (Try.slices_Contains_string_empty A c u w).mono fun e w' h => ⟨h.1, h.2.symm⟩
  · obtain ⟨b, off, rfl, hc⟩ := hr.2 (by omega)
    have h1 := Try.slices_Contains_string b off n c l u w (by rw [hr.1]; exact Nat.le_refl _) (by omega) (fun j hj => by
      have := hc j _ (List.getElem?_eq_getElem hj) 0 (.string l[j]) rfl
      simp only [strE, Nat.mul_one, Nat.add_zero] at this
      rw [this, List.getD_eq_getElem?_getD, List.getElem?_eq_getElem hj]
      rfl)
    refine h1.mono fun e w' h => ⟨?_, h.2.symm⟩
    rw [h.1, ← hr.1, List.take_length]
    refine congrArg (fun b => Ending.returned (.bool b)) ?_
    rw [Bool.eq_iff_iff, Lib.containsS_iff, isIn_true]
/-- the length of a slice -/
def slen : Value → Nat
  | .slice _ n _ => n
  | _ => 0
set_option maxRecDepth 100000 in
set_option maxHeartbeats 2000000 in
theorem i_under (A : Option Addr) (n c a : Nat) (l : List DRole) (nm : ByteArray) (w : World) (hr : RdRole w A n l) (hn : n ≤ 1048576) (hok : ∀ i, RoleOk nameB l i) (hs : sumRole l ≤ 1048576) (ha : fnd l nm = a) :
    Calls Try.prog 59 #[.slice A n c, .string nm] w fun e w' => ∃ g m c', e = .returned (.slice (some ⟨g, 0, none⟩) m c') ∧ GL strE 9 w.heap.size w' (.slice (some ⟨g, 0, none⟩) m c') (undN l a) ∧ Below w.heap.size w w' := by
  have Hl := Lib.hid hr.len
  have HI := Lib.hid (roles_inj hok)
  have HU := Lib.hid (roles_under hok)
  have HSo := Lib.hid (roles_sorted hok)
  have HS := Lib.hid hs
  have HA := Lib.hid ha
  clear hok hs ha
  obtain ⟨i0, hi, hz0, hz1, hz2⟩ := info_parts Try.info_str
  have hN0 : GL strE 9 w.heap.size (w.alloc (.cells #[] 9)) (.slice (some ⟨w.heap.size, 0, none⟩) 0 0) [] := GL.mk0 (Nat.le_refl _)
  have hN1 := hN0.alloc (.cells #[.string nm] 9)
  have hW1 : TL 9 w.heap.size ((w.alloc (.cells #[] 9)).alloc (.cells #[.string nm] 9)) (w.heap.size + 1) 0 1 1 [nm] := by
    have h := World.ownsRow_lit (base := w.heap.size) (e := 9) (size := 1) (w.alloc (.cells #[] 9)) #[.string nm] 1 (by simp) (by decide) rfl
    rw [show (w.alloc (.cells #[] 9)).heap.size = w.heap.size + 1 by simp] at h
    exact TL.of_gl h
  have hb0 : Below w.heap.size w ((w.alloc (.cells #[] 9)).alloc (.cells #[.string nm] 9)) := by (repeat (first | exact Below.refl _ _ | assumption | refine Below.drew ?_ | refine Below.alloc ?_ (by first | omega | (simp; done) | (simp; omega) | exact Below.size (by assumption)) _ | refine Below.setCell ?_ (by first | omega | (simp; done) | (simp; omega)) _))
  go_enter Try.func59, Try.ntmps59
  go_wp2_with fail
  go_loopw [5, 6] (fun vn vw wr => ∃ (names work : List ByteArray) (gn cn g o nw cw : Nat), vn = .slice (some ⟨gn, 0, none⟩) names.length cn ∧ vw = .slice (some ⟨g, o, none⟩) nw cw ∧ GL strE 9 w.heap.size wr (.slice (some ⟨gn, 0, none⟩) names.length cn) names ∧
      TL 9 w.heap.size wr g o nw cw work ∧ Below w.heap.size w wr ∧ gn ≠ g ∧ names.length ≤ n ∧ o + nw ≤ names.length + 1 ∧ Hid (Bfs l a names (· ∈ work) ∧ ∀ u ∈ work, u = nm ∨ u ∈ names)) (fun vn vw _ => 2 * (n - slen vn) + slen vw)
  case atStart => exact ⟨[], [nm], w.heap.size, 0, w.heap.size + 1, 0, 1, 1, rfl, rfl, hN1, hW1, hb0, by omega, by simp, by simp, Lib.hid ⟨Bfs.start HA.out, fun u hu => .inl (by simpa using hu)⟩⟩
  case round =>
    obtain ⟨names, work, gn, cn, g, o, nw, cw, rfl, rfl, hgl, htl, hb, hne, hnl, hol, HB⟩ := hrel
    cases work with
    | nil =>
      obtain rfl : nw = 0 := by have := htl.2.2.1; simpa using this.symm
      have E : Hid (uniqB (sortB names) = undN l a) := Lib.hid (bfs_und HSo.out HB.out.1 (fun u h => by cases h))
      go_wp2_with fail
      refine (i_sortedSet gn names.length cn w.heap.size names _ w hgl (by omega) hb).mono ?_
      rintro e w1 ⟨rfl, hg1, hb1⟩
      rw [E.out] at hg1 ⊢
      go_wp2
      go_ret
      exact ⟨gn, _, cn, rfl, hg1, hb1⟩
    | cons u0 work =>
      have hnw : nw = work.length + 1 := by have := htl.2.2.1; simpa using this.symm
      have hcw : nw ≤ cw := htl.2.2.2.1
      subst hnw
      have hc0 := htl.head
      have ht1 := htl.tail
      obtain ⟨q, x, hq, hx, hxn⟩ : ∃ (q : Nat) (x : DRole), fnd l u0 = q ∧ l[q]? = some x ∧ x.name = u0 := by
        rcases HB.out.2 u0 (by simp) with rfl | h
        · obtain ⟨x, hx, he⟩ := fnd_some HA.out
          exact ⟨a, x, HA.out, hx, he⟩
        · exact HB.out.1.all h
      have hqin : Hid (q = a ∨ x.name ∈ names) := Lib.hid (by
        rcases HB.out.2 u0 (by simp) with rfl | h
        · left
          have := HA.out
          omega
        · right
          rw [hxn]
          exact h)
      have hqn : q < n := by have := (List.getElem?_eq_some_iff.1 hx).1; have := Hl.out; omega
      obtain ⟨b, off, x', A', n', c', rfl, hx', hcx, hru⟩ := hr.get hqn
      rw [hx] at hx'
      cases hx'
      have HX := Lib.hid hx
      have HXN := Lib.hid hxn
      have HR := Lib.hid hru
      have hn' : n' ≤ 1048576 := by rw [← hru.1]; exact under_le (mem_of_get hx) HS.out
      have hcall := i_roleOf (some ⟨b, off, none⟩) n c l u0 wr (hr.below hb) hn
      rw [hq] at hcall
      have HC := Lib.hid hcx
      clear hx hxn hru hcx hq
      have hsz : ∀ w, (Go.sizeOf 9).run Try.prog w = .ok 1 w := fun w => by simp [Go.sizeOf, typeInfo, hi, hz1]
      have hcut := fun W => run_cut1 (P := Try.prog) W 29 9 Try.underlying29 hsz g o work.length cw hcw
      obtain ⟨o1, ho1, ho1'⟩ : ∃ o1, (if cw = 1 then o else o + 1) = o1 ∧ o1 ≤ o + 1 := ⟨_, rfl, by split <;> omega⟩
      rw [ho1] at hcut ht1
      rw [Nat.add_sub_cancel] at ht1
      go_wp2_with fail
      refine hcall.mono ?_
      rintro e w1 ⟨rfl, hb1⟩
      have hgl1 := hgl.below hb1
      have htl1 := ht1.below hb1
      have hbF := hb.trans (hb1.mono hb.size)
      have hc1 := range_below (B := 0) HC.out hbF 1 _ rfl
      clear hcall hgl htl ht1 hc0 hb hb1
      go_wp2_with fail
      clear hcut hc1 hsz
      go_loopw [29, 5, 6] (fun ci vn vw wr => ∃ (m : Nat) (names' work' : List ByteArray) (gn cn g o nw cw : Nat), m ≤ n' ∧ ci = .int .i64 m ∧ vn = .slice (some ⟨gn, 0, none⟩) names'.length cn ∧ vw = .slice (some ⟨g, o, none⟩) nw cw ∧ GL strE 9 w.heap.size wr (.slice (some ⟨gn, 0, none⟩) names'.length cn) names' ∧
        TL 9 w.heap.size wr g o nw cw work' ∧ Below w.heap.size w wr ∧ gn ≠ g ∧ names'.length ≤ n ∧ o + nw ≤ names'.length + 1 ∧ nw + names.length = names'.length + work.length ∧ names.length ≤ names'.length ∧
        Hid (Bfs l a names' (fun u => u ∈ work' ∨ u = u0) ∧ (∀ u ∈ work', u = nm ∨ u ∈ names') ∧ (∀ (j : Nat) u, j < m → x.under[j]? = some u → u ∈ names') ∧ (q = a ∨ x.name ∈ names'))) (fun ci _ _ _ => n' - (intOf ci).toNat)
      case atStart => exact ⟨0, names, work, gn, cn, g, o1, work.length, cw - 1, Nat.zero_le _, rfl, rfl, rfl, hgl1, htl1, hbF, hne, hnl, by omega, by omega, Nat.le_refl _, Lib.hid ⟨HB.out.1.weaken (fun u hu => (List.mem_cons.1 hu).symm.imp id id), fun u hu => HB.out.2 u (List.mem_cons_of_mem _ hu), fun j u h => absurd h (Nat.not_lt_zero _), hqin.out⟩⟩
      case round =>
        clear hgl1 htl1 hbF hne hol hnl
        obtain ⟨m, names', work', gn', cn', g', o', nw', cw', hm, rfl, rfl, rfl, hgl, htl, hb, hne, hnl, hol, hsum, hmono, HP⟩ := hrel
        by_cases hmn : m < n'
        · obtain ⟨b2, off2, u, rfl, hu, hcu⟩ := (HR.out.below hb).get hmn
          have hcu0 := hcu 0 (.string u) rfl
          simp only [strE, Nat.mul_one, Nat.add_zero] at hcu0
          have Hu := Lib.hid hu
          clear hcu hu
          have hcon := i_ContainsS (some ⟨gn', 0, none⟩) names'.length cn' names' u wr hgl.rd (by omega)
          rcases hin : isIn names' u with _ | _
          · have hnin : u ∉ names' := fun h => by rw [isIn_true.2 h] at hin; cases hin
            obtain ⟨y, hy⟩ := HU.out q x HX.out u (List.mem_of_getElem? Hu.out)
            have HN : Hid (Bfs l a (names' ++ [u]) (fun v => v ∈ work' ++ [u] ∨ v = u0) ∧ (∀ v ∈ work' ++ [u], v = nm ∨ v ∈ names' ++ [u]) ∧ (∀ (j : Nat) v, j < m + 1 → x.under[j]? = some v → v ∈ names' ++ [u]) ∧ (q = a ∨ x.name ∈ names' ++ [u])) := Lib.hid ⟨(HP.out.1.push HI.out HX.out HP.out.2.2.2 (List.mem_of_getElem? Hu.out) hnin hy).weaken (fun v hv => by
                rcases hv with (hv | hv) | hv
                · exact .inl (List.mem_append_left _ hv)
                · exact .inr hv
                · exact .inl (by rw [hv]; simp)), fun v hv => by
                rcases List.mem_append.1 hv with hv | hv
                · exact (HP.out.2.1 v hv).imp id (List.mem_append_left _)
                · exact .inr (List.mem_append_right _ hv), fun j v hj hv => by
                rcases Nat.lt_or_ge j m with h | h
                · exact List.mem_append_left _ (HP.out.2.2.1 j v h hv)
                · obtain rfl : j = m := by omega
                  rw [Hu.out] at hv
                  cases hv
                  simp, HP.out.2.2.2.imp id (List.mem_append_left _)⟩
            have hbd : (names' ++ [u]).length ≤ n := by
              have := HN.out.1.bound
              have := Hl.out
              omega
            rw [hin] at hcon
            clear hin hy
            have hbs := hb.size
            rw [List.length_append, List.length_singleton] at hbd
            go_wp2_with fail
            refine hcon.mono ?_
            rintro e w2 ⟨rfl, rfl⟩
            clear hcon
            go_wp2_with (first
              | (at_builtin; refine wpList_pushO strE rfl _ _ 29 rfl w.heap.size 9 i0 _ 16 Try.underlying29 hi hz0 hz1 hz2 rfl (some ⟨gn', 0, none⟩) names'.length cn' names' u rfl (hgl.alloc _) wr.heap.size rfl (range_new _ _ _) (by omega) (by decide) (by simp; omega) ?_; intro A2 c2 w3 hgl3 ht3 hn3
                 have htl3 := (htl.below ((Below.refl _ _).alloc (Nat.le_refl _) (.cells #[.string u] 9))).touch ht3 (fun e => hne (by cases e; rfl))
                 have hb3 := Below.touch (hb.alloc (by omega) (.cells #[.string u] 9)) ht3 (fun k hk => (hgl.lt k hk).1) (by simp; omega)
                 have hz3 := hb3.size
                 have hz3' := ht3.size
                 clear ht3)
              | (at_builtin; refine wpList_pushTL rfl _ _ 29 rfl w.heap.size 9 i0 _ 16 Try.underlying29 hi hz0 hz1 hz2 rfl g' o' nw' cw' work' u rfl (htl3.below ((Below.refl _ _).alloc (Nat.le_refl _) (.cells #[.string u] 9))) w3.heap.size rfl (range_new _ _ _) (by omega) (by decide) (by simp; omega) ?_; intro g4 o4 c4 w4 htl4 ht4 hn4 ho4
                 obtain ⟨gn4, rfl⟩ := hgl3.place (by omega)
                 have hgn4 := (hgl3.lt gn4 rfl).2
                 have hne3 : gn4 ≠ g' := by
                   rcases hn3 gn4 rfl with h | h
                   · cases h; exact hne
                   · have := htl.2.1; simp at h; omega
                 have hgl4 := (hgl3.alloc (.cells #[.string u] 9)).touch ht4 (fun k hk e => hne3 (by cases hk; exact e))
                 have hne4 : gn4 ≠ g4 := by
                   rcases hn4 with h | h
                   · rw [h]; exact hne3
                   · simp at h; omega
                 have hb4 := Below.touch (hb3.alloc (by omega) (.cells #[.string u] 9)) ht4 (fun k hk => by rw [hk]; exact htl.1) (by simp; omega)
                 clear ht4 hn3 hn4))
            first | (refine ⟨⟨m + 1, names' ++ [u], work' ++ [u], gn4, c2, g4, o4, nw' + 1, c4, by omega, by go_num, by simp, rfl, by simpa using hgl4, htl4, hb4, hne4, by simp; omega, by simp; omega, by simp; omega, by simp; omega, HN⟩, ?_⟩; (simp [intOf]; omega)) | (go_roundw; (case rel => first | exact ⟨m + 1, names' ++ [u], work' ++ [u], gn4, c2, g4, o4, nw' + 1, c4, by omega, by go_num, by simp, rfl, by simpa using hgl4, htl4, hb4, hne4, by simp; omega, by simp; omega, by simp; omega, by simp; omega, HN⟩ | ((try refine ⟨trivial, ?_⟩); (repeat apply Exists.intro); exact ⟨⟨m + 1, names' ++ [u], work' ++ [u], gn4, c2, g4, o4, nw' + 1, c4, by omega, by go_num, by simp, rfl, by simpa using hgl4, htl4, hb4, hne4, by simp; omega, by simp; omega, by simp; omega, by simp; omega, HN⟩, rfl⟩)); (case measure => (simp [intOf]; omega)))
          · have HN : Hid (Bfs l a names' (fun u => u ∈ work' ∨ u = u0) ∧ (∀ u ∈ work', u = nm ∨ u ∈ names') ∧ (∀ (j : Nat) u, j < m + 1 → x.under[j]? = some u → u ∈ names') ∧ (q = a ∨ x.name ∈ names')) := Lib.hid ⟨HP.out.1, HP.out.2.1, fun j v hj hv => by
                rcases Nat.lt_or_ge j m with h | h
                · exact HP.out.2.2.1 j v h hv
                · obtain rfl : j = m := by omega
                  rw [Hu.out] at hv
                  cases hv
                  exact isIn_true.1 hin, HP.out.2.2.2⟩
            rw [hin] at hcon
            clear hin
            go_wp2_with fail
            refine hcon.mono ?_
            rintro e w2 ⟨rfl, rfl⟩
            clear hcon
            go_wp2
            first | (refine ⟨⟨m + 1, names', work', gn', cn', g', o', nw', cw', by omega, by go_num, rfl, rfl, hgl, htl, hb, hne, hnl, hol, hsum, hmono, HN⟩, ?_⟩; (simp [intOf]; omega)) | (go_roundw; (case rel => first | exact ⟨m + 1, names', work', gn', cn', g', o', nw', cw', by omega, by go_num, rfl, rfl, hgl, htl, hb, hne, hnl, hol, hsum, hmono, HN⟩ | ((try refine ⟨trivial, ?_⟩); (repeat apply Exists.intro); exact ⟨⟨m + 1, names', work', gn', cn', g', o', nw', cw', by omega, by go_num, rfl, rfl, hgl, htl, hb, hne, hnl, hol, hsum, hmono, HN⟩, rfl⟩)); (case measure => (simp [intOf]; omega)))
        · have HN : Hid (Bfs l a names' (· ∈ work') ∧ ∀ u ∈ work', u = nm ∨ u ∈ names') := Lib.hid ⟨HP.out.1.drop HI.out HX.out (fun v hv => hv.imp id (fun h => by rw [h, HXN.out])) (fun v hv => by
              obtain ⟨j, hj⟩ := List.mem_iff_getElem?.1 hv
              exact HP.out.2.2.1 j v (by have := (List.getElem?_eq_some_iff.1 hj).1; have := HR.out.1; omega) hj), HP.out.2.1⟩
          go_wp2
          first | (refine ⟨⟨names', work', gn', cn', g', o', nw', cw', rfl, rfl, hgl, htl, hb, hne, hnl, hol, HN⟩, ?_⟩; (simp [slen]; omega)) | (go_roundw; (case rel => first | exact ⟨names', work', gn', cn', g', o', nw', cw', rfl, rfl, hgl, htl, hb, hne, hnl, hol, HN⟩ | ((try refine ⟨trivial, ?_⟩); (repeat apply Exists.intro); exact ⟨⟨names', work', gn', cn', g', o', nw', cw', rfl, rfl, hgl, htl, hb, hne, hnl, hol, HN⟩, rfl⟩)); (case measure => (simp [slen]; omega)))

set_option maxRecDepth 100000 in
set_option maxHeartbeats 2000000 in
theorem I_ValidRoles (A : Option Addr) (n c : Nat) (l : List DRole) (w : World) (hr : RdRole w A n l) (hn : n ≤ 1048576) (hg : ∀ x ∈ l, x.good) (hs : sumRole l ≤ 1048576) :
    Calls Try.prog 17 #[.slice A n c] w (RetB (rolesB l) w) := by
  have Hl := Lib.hid hr.len
  have HG := Lib.hid hg; clear hg
  have HS := Lib.hid hs; clear hs
  have bad : Hid (∀ i, ¬ RoleOk nameB l i → rolesB l = false) := Lib.hid (fun i h => rolesBy_bad h)
  go_enter Try.func17, Try.ntmps17
  go_wp2_with fail
  go_loopw [11] (fun i wr => ∃ k : Nat, k ≤ n ∧ i = .int .i64 k ∧ Below w.heap.size w wr ∧ Hid (∀ i, i < k → RoleOk nameB l i)) (fun i _ => n - (intOf i).toNat)
  case atStart => exact ⟨0, Nat.zero_le _, rfl, Below.refl _ _, Lib.hid (fun i h => absurd h (Nat.not_lt_zero _))⟩
  case round =>
    obtain ⟨k, hk, rfl, hb, HH⟩ := hrel
    by_cases hlt : k < n
    · obtain ⟨b, off, x, A', n', c', rfl, hx, hc, hru⟩ := hr.get hlt
      have HX := Lib.hid hx
      have hc0 := range_below (B := 0) hc hb 0 _ rfl
      have hc1 := range_below (B := 0) hc hb 1 _ rfl
      simp only [Nat.add_zero] at hc0
      have HR := Lib.hid hru
      have hgx := HG.out x (mem_of_get hx)
      have hnn : n' ≤ 1048576 := by rw [← hru.1]; exact under_le (mem_of_get hx) HS.out
      have HN : Hid (∀ W, Calls Try.prog 56 #[.string x.name] W fun e w' => e = .returned (.bool (nameB x.name)) ∧ W = w') := Lib.hid (fun W => i_IsName x.name W hgx.1)
      clear hx hru hgx hc
      rcases h1 : nameB x.name with _ | _
      · have E : Hid (rolesB l = false) := Lib.hid (bad.out k (RoleOk.bad_name HX.out h1))
        have C0 : ∀ W, Calls Try.prog 56 #[.string x.name] W fun e w' => e = .returned (.bool false) ∧ W = w' := fun W => by have := HN.out W; rw [h1] at this; exact this
        clear h1
        have hcx := range_new wr #[.string x.name, .slice A' n' c'] 70
        have hb0 : Below w.heap.size w (wr.alloc (.cells #[.string x.name, .slice A' n' c'] 70)) := hb.alloc hb.size _
        have hba : Below wr.heap.size wr (wr.alloc (.cells #[.string x.name, .slice A' n' c'] 70)) := (Below.refl _ _).alloc (Nat.le_refl _) _
        obtain ⟨W0, hW0⟩ : ∃ W0, wr.alloc (.cells #[.string x.name, .slice A' n' c'] 70) = W0 := ⟨_, rfl⟩
        go_wp2_with fail
        rw [hW0] at hcx hb0 hba
        try rw [hW0]
        have hx0 := hcx 0 (.string x.name) rfl
        have hx1 := hcx 1 (.slice A' n' c') rfl
        simp only [Nat.zero_add] at hx0 hx1
        clear hW0 hcx hc0 hc1
        go_quiet (first | (go_at_call 56; with_reducible exact quiet_left (C0 _)))
        go_wp2
        go_ret
        exact ⟨ret_bool E.out.symm, below_drewN hb0 _⟩
      · have H1 := Lib.hid h1
        have C0 : ∀ W, Calls Try.prog 56 #[.string x.name] W fun e w' => e = .returned (.bool true) ∧ W = w' := fun W => by have := HN.out W; rw [h1] at this; exact this
        clear h1
        match k, hk, hlt, HX, HH, hc0, hc1 with
        | 0, hk, hlt, HX, HH, hc0, hc1 =>
          rw [Nat.zero_mul, Nat.add_zero] at hc0 hc1
          have hcx := range_new wr #[.string x.name, .slice A' n' c'] 70
          have hb0 : Below w.heap.size w (wr.alloc (.cells #[.string x.name, .slice A' n' c'] 70)) := hb.alloc hb.size _
          have hba : Below wr.heap.size wr (wr.alloc (.cells #[.string x.name, .slice A' n' c'] 70)) := (Below.refl _ _).alloc (Nat.le_refl _) _
          obtain ⟨W0, hW0⟩ : ∃ W0, wr.alloc (.cells #[.string x.name, .slice A' n' c'] 70) = W0 := ⟨_, rfl⟩
          go_wp2_with fail
          rw [hW0] at hcx hb0 hba
          try rw [hW0]
          have hx0 := hcx 0 (.string x.name) rfl
          have hx1 := hcx 1 (.slice A' n' c') rfl
          simp only [Nat.zero_add] at hx0 hx1
          clear hW0 hcx hc0 hc1
          go_quiet (first | (go_at_call 56; with_reducible exact quiet_left (C0 _)))
          have hx1d := fun q => (show (W0.drewN q).cell? ⟨wr.heap.size, 1, none⟩ = _ from hx1)
          go_wp2_with fail
          obtain ⟨hh, hhe⟩ : ∃ hh, wr.heap.size = hh := ⟨_, rfl⟩
          rw [hhe] at hx1 hx1d ⊢
          go_loopw [38] (fun i wr => ∃ m : Nat, m ≤ n' ∧ i = .int .i64 m ∧ Below w.heap.size w wr ∧ wr.cell? ⟨hh, 1, none⟩ = some (.slice A' n' c') ∧ Hid (∀ (j : Nat) u, j < m → x.under[j]? = some u → (∃ y : Nat, fnd l u = y) ∧ ∀ v, 0 < j → x.under[j - 1]? = some v → Op.bytesLess v.toList u.toList = true)) (fun i _ => n' - (intOf i).toNat)
          case atStart => exact ⟨0, Nat.zero_le _, rfl, below_drewN hb0 _, hx1d _, Lib.hid (fun j u h => absurd h (Nat.not_lt_zero _))⟩
          case round =>
            clear hb hb0 hba hx0 hx1 hx1d C0 hhe
            obtain ⟨m, hm, rfl, hb, hbx, HI⟩ := hrel
            by_cases hmn : m < n'
            · obtain ⟨b2, off2, u, rfl, hu, hcu⟩ := HR.out.get hmn
              have HCU := Lib.hid hcu
              have hcu0 := range_below (B := 0) hcu hb 0 (.string u) rfl
              simp only [strE, Nat.mul_one, Nat.add_zero] at hcu0
              have Hu := Lib.hid hu
              clear hcu hu
              have HF : Hid (Calls Try.prog 57 #[.slice (some ⟨b, off, none⟩) n c, .string u] wr fun e w' => e = .returned (.int .i64 (fnd l u)) ∧ Below wr.heap.size wr w') := Lib.hid (i_roleOf _ n c l u wr (hr.below hb) hn)
              match m, hm, hmn, Hu, HI, hcu0 with
              | 0, hm, hmn, Hu, HI, hcu0 =>
                try rw [Nat.add_zero] at hcu0
                have hcall := HF.out
                rcases fnd_cases l u with ⟨hf, _⟩ | ⟨y, _, hf, _, _⟩
                · have E : Hid (rolesB l = false) := Lib.hid (bad.out _ (RoleOk.bad_under HX.out Hu.out hf))
                  rw [hf] at hcall
                  clear hf HF
                  go_wp2_with fail
                  refine hcall.mono ?_
                  rintro e w2 ⟨rfl, hb2⟩
                  clear hcall
                  go_wp2
                  go_ret
                  exact ⟨ret_bool E.out.symm, hb.trans (hb2.mono hb.size)⟩
                · have HN : Hid (∀ (j : Nat) u, j < 1 → x.under[j]? = some u → (∃ y : Nat, fnd l u = y) ∧ ∀ v, 0 < j → x.under[j - 1]? = some v → Op.bytesLess v.toList u.toList = true) := Lib.hid (fun j u' hj hu' => by
                    obtain rfl : j = 0 := by omega
                    rw [Hu.out] at hu'
                    cases hu'
                    exact ⟨⟨y, hf⟩, fun v h => absurd h (Nat.not_lt_zero _)⟩)
                  rw [hf] at hcall
                  have hyn : y ≤ 1048576 := by have := fnd_lt hf; have := Hl.out; omega
                  clear hf HF
                  go_wp2_with fail
                  refine hcall.mono ?_
                  rintro e w2 ⟨rfl, hb2⟩
                  clear hcall
                  have hbx2 := cell_later hb2 hbx
                  have hb3 := hb.trans (hb2.mono hb.size)
                  go_wp2
                  first | (refine ⟨⟨1, by omega, by go_num, hb3, hbx2, HN⟩, ?_⟩; (simp [intOf]; omega)) | (go_roundw; (case rel => first | exact ⟨1, by omega, by go_num, hb3, hbx2, HN⟩ | ((try refine ⟨trivial, ?_⟩); (repeat apply Exists.intro); exact ⟨⟨1, by omega, by go_num, hb3, hbx2, HN⟩, rfl⟩)); (case measure => (simp [intOf]; omega)))
              | m' + 1, hm, hmn, Hu, HI, hcu0 =>
                obtain ⟨v, hv⟩ : ∃ v, x.under[m']? = some v := ⟨_, List.getElem?_eq_getElem (by have := HR.out.1; omega)⟩
                obtain ⟨b3, off3, v', hA3, hv', hcv⟩ := HR.out.get (k := m') (by omega)
                rw [hv] at hv'
                cases hv'
                cases hA3
                have hcv0 := range_below (B := 0) hcv hb 0 (.string v) rfl
                simp only [strE, Nat.mul_one, Nat.add_zero] at hcv0
                have Hv := Lib.hid hv
                clear hcv hv
                rcases hlu : Op.bytesLess v.toList u.toList with _ | _
                · have E : Hid (rolesB l = false) := Lib.hid (bad.out _ (RoleOk.bad_order HX.out Hu.out (Nat.succ_pos _) (by rw [Nat.add_sub_cancel]; exact Hv.out) hlu))
                  clear HF
                  go_wp2_with fail
                  go_ret
                  exact ⟨ret_bool E.out.symm, hb⟩
                · have hcall := HF.out
                  rcases fnd_cases l u with ⟨hf, _⟩ | ⟨y, _, hf, _, _⟩
                  · have E : Hid (rolesB l = false) := Lib.hid (bad.out _ (RoleOk.bad_under HX.out Hu.out hf))
                    rw [hf] at hcall
                    clear hf HF
                    go_wp2_with fail
                    refine hcall.mono ?_
                    rintro e w2 ⟨rfl, hb2⟩
                    clear hcall
                    go_wp2
                    go_ret
                    exact ⟨ret_bool E.out.symm, hb.trans (hb2.mono hb.size)⟩
                  · have HN : Hid (∀ (j : Nat) u, j < m' + 2 → x.under[j]? = some u → (∃ y : Nat, fnd l u = y) ∧ ∀ v, 0 < j → x.under[j - 1]? = some v → Op.bytesLess v.toList u.toList = true) := Lib.hid (fun j u' hj hu' => by
                      rcases Nat.lt_or_ge j (m' + 1) with h | h
                      · exact HI.out j u' h hu'
                      · obtain rfl : j = m' + 1 := by omega
                        rw [Hu.out] at hu'
                        cases hu'
                        refine ⟨⟨y, hf⟩, fun v' _ hv' => ?_⟩
                        rw [Nat.add_sub_cancel, Hv.out] at hv'
                        cases hv'
                        exact hlu)
                    rw [hf] at hcall
                    have hyn : y ≤ 1048576 := by have := fnd_lt hf; have := Hl.out; omega
                    clear hf HF
                    go_wp2_with fail
                    refine hcall.mono ?_
                    rintro e w2 ⟨rfl, hb2⟩
                    clear hcall
                    have hbx2 := cell_later hb2 hbx
                    have hb3 := hb.trans (hb2.mono hb.size)
                    go_wp2
                    first | (refine ⟨⟨m' + 2, by omega, by go_num, hb3, hbx2, HN⟩, ?_⟩; (simp [intOf]; omega)) | (go_roundw; (case rel => first | exact ⟨m' + 2, by omega, by go_num, hb3, hbx2, HN⟩ | ((try refine ⟨trivial, ?_⟩); (repeat apply Exists.intro); exact ⟨⟨m' + 2, by omega, by go_num, hb3, hbx2, HN⟩, rfl⟩)); (case measure => (simp [intOf]; omega)))
            · have HN : Hid (∀ i, i < 0 + 1 → RoleOk nameB l i) := Lib.hid (fun i hi => by
                rcases Nat.lt_or_ge i (0) with h | h
                · exact HH.out i h
                · obtain rfl : i = 0 := by omega
                  exact RoleOk.mk HX.out H1.out (fun y h => absurd h (Nat.not_lt_zero _)) fun j u hu => HI.out j u (by have := (List.getElem?_eq_some_iff.1 hu).1; have := HR.out.1; omega) hu)
              go_wp2
              first | (refine ⟨⟨0 + 1, by omega, by go_num, hb, HN⟩, ?_⟩; (simp [intOf]; omega)) | (go_roundw; (case rel => first | exact ⟨0 + 1, by omega, by go_num, hb, HN⟩ | ((try refine ⟨trivial, ?_⟩); (repeat apply Exists.intro); exact ⟨⟨0 + 1, by omega, by go_num, hb, HN⟩, rfl⟩)); (case measure => (simp [intOf]; omega)))
        | j + 1, hk, hlt, HX, HH, hc0, hc1 =>
          obtain ⟨bp, offp, p, Ap, np, cp, hAp, hp, hcp, _⟩ := hr.get (k := j) (by omega)
          cases hAp
          have HP := Lib.hid hp
          have HCP := Lib.hid (range_below (B := 0) hcp hb)
          clear hp hcp
          rcases hlp : Op.bytesLess p.name.toList x.name.toList with _ | _
          · have E : Hid (rolesB l = false) := Lib.hid (bad.out _ (RoleOk.bad_prev HX.out (Nat.succ_pos _) (by rw [Nat.add_sub_cancel]; exact HP.out) hlp))
            have hcx := range_new wr #[.string x.name, .slice A' n' c'] 70
            have hb0 : Below w.heap.size w (wr.alloc (.cells #[.string x.name, .slice A' n' c'] 70)) := hb.alloc hb.size _
            have hba : Below wr.heap.size wr (wr.alloc (.cells #[.string x.name, .slice A' n' c'] 70)) := (Below.refl _ _).alloc (Nat.le_refl _) _
            obtain ⟨W0, hW0⟩ : ∃ W0, wr.alloc (.cells #[.string x.name, .slice A' n' c'] 70) = W0 := ⟨_, rfl⟩
            go_wp2_with fail
            rw [hW0] at hcx hb0 hba
            try rw [hW0]
            have hx0 := hcx 0 (.string x.name) rfl
            have hx1 := hcx 1 (.slice A' n' c') rfl
            simp only [Nat.zero_add] at hx0 hx1
            clear hW0 hcx hc0 hc1
            have hp0 := range_below (B := 0) HCP.out hba 0 _ rfl
            simp only [Nat.add_zero] at hp0
            go_quiet (first | (go_at_call 56; with_reducible exact quiet_left (C0 _)))
            go_wp2
            go_ret
            exact ⟨ret_bool E.out.symm, below_drewN hb0 _⟩
          · have HL := Lib.hid hlp
            have hcx := range_new wr #[.string x.name, .slice A' n' c'] 70
            have hb0 : Below w.heap.size w (wr.alloc (.cells #[.string x.name, .slice A' n' c'] 70)) := hb.alloc hb.size _
            have hba : Below wr.heap.size wr (wr.alloc (.cells #[.string x.name, .slice A' n' c'] 70)) := (Below.refl _ _).alloc (Nat.le_refl _) _
            obtain ⟨W0, hW0⟩ : ∃ W0, wr.alloc (.cells #[.string x.name, .slice A' n' c'] 70) = W0 := ⟨_, rfl⟩
            go_wp2_with fail
            rw [hW0] at hcx hb0 hba
            try rw [hW0]
            have hx0 := hcx 0 (.string x.name) rfl
            have hx1 := hcx 1 (.slice A' n' c') rfl
            simp only [Nat.zero_add] at hx0 hx1
            clear hW0 hcx hc0 hc1
            have hp0 := range_below (B := 0) HCP.out hba 0 _ rfl
            simp only [Nat.add_zero] at hp0
            go_quiet (first | (go_at_call 56; with_reducible exact quiet_left (C0 _)))
            clear hlp hp0
            have hx1d := fun q => (show (W0.drewN q).cell? ⟨wr.heap.size, 1, none⟩ = _ from hx1)
            go_wp2_with fail
            obtain ⟨hh, hhe⟩ : ∃ hh, wr.heap.size = hh := ⟨_, rfl⟩
            rw [hhe] at hx1 hx1d ⊢
            go_loopw [38] (fun i wr => ∃ m : Nat, m ≤ n' ∧ i = .int .i64 m ∧ Below w.heap.size w wr ∧ wr.cell? ⟨hh, 1, none⟩ = some (.slice A' n' c') ∧ Hid (∀ (j : Nat) u, j < m → x.under[j]? = some u → (∃ y : Nat, fnd l u = y) ∧ ∀ v, 0 < j → x.under[j - 1]? = some v → Op.bytesLess v.toList u.toList = true)) (fun i _ => n' - (intOf i).toNat)
            case atStart => exact ⟨0, Nat.zero_le _, rfl, below_drewN hb0 _, hx1d _, Lib.hid (fun j u h => absurd h (Nat.not_lt_zero _))⟩
            case round =>
              clear hb hb0 hba hx0 hx1 hx1d C0 hhe
              obtain ⟨m, hm, rfl, hb, hbx, HI⟩ := hrel
              by_cases hmn : m < n'
              · obtain ⟨b2, off2, u, rfl, hu, hcu⟩ := HR.out.get hmn
                have HCU := Lib.hid hcu
                have hcu0 := range_below (B := 0) hcu hb 0 (.string u) rfl
                simp only [strE, Nat.mul_one, Nat.add_zero] at hcu0
                have Hu := Lib.hid hu
                clear hcu hu
                have HF : Hid (Calls Try.prog 57 #[.slice (some ⟨b, off, none⟩) n c, .string u] wr fun e w' => e = .returned (.int .i64 (fnd l u)) ∧ Below wr.heap.size wr w') := Lib.hid (i_roleOf _ n c l u wr (hr.below hb) hn)
                match m, hm, hmn, Hu, HI, hcu0 with
                | 0, hm, hmn, Hu, HI, hcu0 =>
                  try rw [Nat.add_zero] at hcu0
                  have hcall := HF.out
                  rcases fnd_cases l u with ⟨hf, _⟩ | ⟨y, _, hf, _, _⟩
                  · have E : Hid (rolesB l = false) := Lib.hid (bad.out _ (RoleOk.bad_under HX.out Hu.out hf))
                    rw [hf] at hcall
                    clear hf HF
                    go_wp2_with fail
                    refine hcall.mono ?_
                    rintro e w2 ⟨rfl, hb2⟩
                    clear hcall
                    go_wp2
                    go_ret
                    exact ⟨ret_bool E.out.symm, hb.trans (hb2.mono hb.size)⟩
                  · have HN : Hid (∀ (j : Nat) u, j < 1 → x.under[j]? = some u → (∃ y : Nat, fnd l u = y) ∧ ∀ v, 0 < j → x.under[j - 1]? = some v → Op.bytesLess v.toList u.toList = true) := Lib.hid (fun j u' hj hu' => by
                      obtain rfl : j = 0 := by omega
                      rw [Hu.out] at hu'
                      cases hu'
                      exact ⟨⟨y, hf⟩, fun v h => absurd h (Nat.not_lt_zero _)⟩)
                    rw [hf] at hcall
                    have hyn : y ≤ 1048576 := by have := fnd_lt hf; have := Hl.out; omega
                    clear hf HF
                    go_wp2_with fail
                    refine hcall.mono ?_
                    rintro e w2 ⟨rfl, hb2⟩
                    clear hcall
                    have hbx2 := cell_later hb2 hbx
                    have hb3 := hb.trans (hb2.mono hb.size)
                    go_wp2
                    first | (refine ⟨⟨1, by omega, by go_num, hb3, hbx2, HN⟩, ?_⟩; (simp [intOf]; omega)) | (go_roundw; (case rel => first | exact ⟨1, by omega, by go_num, hb3, hbx2, HN⟩ | ((try refine ⟨trivial, ?_⟩); (repeat apply Exists.intro); exact ⟨⟨1, by omega, by go_num, hb3, hbx2, HN⟩, rfl⟩)); (case measure => (simp [intOf]; omega)))
                | m' + 1, hm, hmn, Hu, HI, hcu0 =>
                  obtain ⟨v, hv⟩ : ∃ v, x.under[m']? = some v := ⟨_, List.getElem?_eq_getElem (by have := HR.out.1; omega)⟩
                  obtain ⟨b3, off3, v', hA3, hv', hcv⟩ := HR.out.get (k := m') (by omega)
                  rw [hv] at hv'
                  cases hv'
                  cases hA3
                  have hcv0 := range_below (B := 0) hcv hb 0 (.string v) rfl
                  simp only [strE, Nat.mul_one, Nat.add_zero] at hcv0
                  have Hv := Lib.hid hv
                  clear hcv hv
                  rcases hlu : Op.bytesLess v.toList u.toList with _ | _
                  · have E : Hid (rolesB l = false) := Lib.hid (bad.out _ (RoleOk.bad_order HX.out Hu.out (Nat.succ_pos _) (by rw [Nat.add_sub_cancel]; exact Hv.out) hlu))
                    clear HF
                    go_wp2_with fail
                    go_ret
                    exact ⟨ret_bool E.out.symm, hb⟩
                  · have hcall := HF.out
                    rcases fnd_cases l u with ⟨hf, _⟩ | ⟨y, _, hf, _, _⟩
                    · have E : Hid (rolesB l = false) := Lib.hid (bad.out _ (RoleOk.bad_under HX.out Hu.out hf))
                      rw [hf] at hcall
                      clear hf HF
                      go_wp2_with fail
                      refine hcall.mono ?_
                      rintro e w2 ⟨rfl, hb2⟩
                      clear hcall
                      go_wp2
                      go_ret
                      exact ⟨ret_bool E.out.symm, hb.trans (hb2.mono hb.size)⟩
                    · have HN : Hid (∀ (j : Nat) u, j < m' + 2 → x.under[j]? = some u → (∃ y : Nat, fnd l u = y) ∧ ∀ v, 0 < j → x.under[j - 1]? = some v → Op.bytesLess v.toList u.toList = true) := Lib.hid (fun j u' hj hu' => by
                        rcases Nat.lt_or_ge j (m' + 1) with h | h
                        · exact HI.out j u' h hu'
                        · obtain rfl : j = m' + 1 := by omega
                          rw [Hu.out] at hu'
                          cases hu'
                          refine ⟨⟨y, hf⟩, fun v' _ hv' => ?_⟩
                          rw [Nat.add_sub_cancel, Hv.out] at hv'
                          cases hv'
                          exact hlu)
                      rw [hf] at hcall
                      have hyn : y ≤ 1048576 := by have := fnd_lt hf; have := Hl.out; omega
                      clear hf HF
                      go_wp2_with fail
                      refine hcall.mono ?_
                      rintro e w2 ⟨rfl, hb2⟩
                      clear hcall
                      have hbx2 := cell_later hb2 hbx
                      have hb3 := hb.trans (hb2.mono hb.size)
                      go_wp2
                      first | (refine ⟨⟨m' + 2, by omega, by go_num, hb3, hbx2, HN⟩, ?_⟩; (simp [intOf]; omega)) | (go_roundw; (case rel => first | exact ⟨m' + 2, by omega, by go_num, hb3, hbx2, HN⟩ | ((try refine ⟨trivial, ?_⟩); (repeat apply Exists.intro); exact ⟨⟨m' + 2, by omega, by go_num, hb3, hbx2, HN⟩, rfl⟩)); (case measure => (simp [intOf]; omega)))
              · have HN : Hid (∀ i, i < j + 1 + 1 → RoleOk nameB l i) := Lib.hid (fun i hi => by
                  rcases Nat.lt_or_ge i (j + 1) with h | h
                  · exact HH.out i h
                  · obtain rfl : i = j + 1 := by omega
                    exact RoleOk.mk HX.out H1.out (fun y _ hy => by rw [Nat.add_sub_cancel, HP.out] at hy; cases hy; exact HL.out) fun j u hu => HI.out j u (by have := (List.getElem?_eq_some_iff.1 hu).1; have := HR.out.1; omega) hu)
                go_wp2
                first | (refine ⟨⟨j + 1 + 1, by omega, by go_num, hb, HN⟩, ?_⟩; (simp [intOf]; omega)) | (go_roundw; (case rel => first | exact ⟨j + 1 + 1, by omega, by go_num, hb, HN⟩ | ((try refine ⟨trivial, ?_⟩); (repeat apply Exists.intro); exact ⟨⟨j + 1 + 1, by omega, by go_num, hb, HN⟩, rfl⟩)); (case measure => (simp [intOf]; omega)))
    · have HOK : Hid (∀ i, RoleOk nameB l i) := Lib.hid (fun i => by
        rcases Nat.lt_or_ge i k with h | h
        · exact HH.out i h
        · exact RoleOk.none (by have := Hl.out; omega))
      go_wp2_with fail
      go_loopw [65] (fun i wr => ∃ k : Nat, k ≤ n ∧ i = .int .i64 k ∧ Below w.heap.size w wr ∧ Hid (∀ i, i < k → ¬ Reach l i i)) (fun i _ => n - (intOf i).toNat)
      case atStart => exact ⟨0, Nat.zero_le _, rfl, hb, Lib.hid (fun i h => absurd h (Nat.not_lt_zero _))⟩
      case round =>
        clear hb
        obtain ⟨q, hq, rfl, hb, HQ⟩ := hrel
        by_cases hqn : q < n
        · obtain ⟨b, off, x, A', n', c', rfl, hx, hc, hru⟩ := hr.get hqn
          have HX := Lib.hid hx
          have hc0 := range_below (B := 0) hc hb 0 _ rfl
          have hc1 := range_below (B := 0) hc hb 1 _ rfl
          simp only [Nat.add_zero] at hc0
          have hfq := fnd_self (roles_inj HOK.out) hx
          have HUN := Lib.hid (undN_iff (a := q) (roles_inj HOK.out) hx)
          clear hc hru hx
          have hcx := range_new wr #[.string x.name, .slice A' n' c'] 70
          have hb0 : Below w.heap.size w (wr.alloc (.cells #[.string x.name, .slice A' n' c'] 70)) := hb.alloc hb.size _
          have hba : Below wr.heap.size wr (wr.alloc (.cells #[.string x.name, .slice A' n' c'] 70)) := (Below.refl _ _).alloc (Nat.le_refl _) _
          obtain ⟨W0, hW0⟩ : ∃ W0, wr.alloc (.cells #[.string x.name, .slice A' n' c'] 70) = W0 := ⟨_, rfl⟩
          go_wp2_with fail
          rw [hW0] at hcx hb0 hba
          try rw [hW0]
          have hx0 := hcx 0 (.string x.name) rfl
          have hx1 := hcx 1 (.slice A' n' c') rfl
          simp only [Nat.zero_add] at hx0 hx1
          clear hW0 hcx hc0 hc1
          have hbd := hb0.drew
          have hx0d : W0.drew.cell? ⟨wr.heap.size, 0, none⟩ = some (.string x.name) := hx0
          obtain ⟨hh, hhe⟩ : ∃ hh, wr.heap.size = hh := ⟨_, rfl⟩
          rw [hhe] at hx0 hx0d ⊢
          clear hx1 hba hhe
          have hlen : Hid ((undN l q).length ≤ n) := Lib.hid (by have := undTo_len l (UndB l q) l.length; have := Hl.out; unfold undN; omega)
          rcases hin0 : isIn (undN l q) x.name with _ | _
          · have hin := Lib.hid hin0
            have HN : Hid (∀ i, i < q + 1 → ¬ Reach l i i) := Lib.hid (fun i hi => by
              rcases Nat.lt_or_ge i q with h | h
              · exact HQ.out i h
              · obtain rfl : i = q := by omega
                exact fun hr => by rw [isIn_true.2 (HUN.out.2 hr)] at hin0; cases hin0)
            clear hin0
            go_region_held3 (fun w' => w'.cell? ⟨hh, 0, none⟩ = some (.string x.name)) (first | exact hx0d | exact cell_later hbu (by assumption) | assumption)
              (first
                | (go_at_call 59; refine (i_under (some ⟨b, off, none⟩) n c q l x.name _ (hr.below hbd) hn HOK.out HS.out hfq).mono ?_; rintro e w3 ⟨gu, mu, cu, rfl, hgu, hbu⟩)
                | (go_at_call 58; have hcon := i_ContainsS _ _ cu (undN l q) x.name w3 hgu.rd (by have := hgu.len; have := hlen.out; omega); rw [hin.out] at hcon; refine hcon.mono ?_; rintro e w4 ⟨rfl, rfl⟩))
            have hb3 := hbd.trans (hbu.mono hbd.size)
            clear hgu hbu
            go_wp2
            first | (refine ⟨⟨q + 1, by omega, by go_num, hb3, HN⟩, ?_⟩; (simp [intOf]; omega)) | (go_roundw; (case rel => first | exact ⟨q + 1, by omega, by go_num, hb3, HN⟩ | ((try refine ⟨trivial, ?_⟩); (repeat apply Exists.intro); exact ⟨⟨q + 1, by omega, by go_num, hb3, HN⟩, rfl⟩)); (case measure => (simp [intOf]; omega)))
          · have hin := Lib.hid hin0
            have E : Hid (rolesB l = false) := Lib.hid (rolesBy_round (HUN.out.1 (isIn_true.1 hin0)))
            clear hin0
            go_region_held3 (fun w' => w'.cell? ⟨hh, 0, none⟩ = some (.string x.name)) (first | exact hx0d | exact cell_later hbu (by assumption) | assumption)
              (first
                | (go_at_call 59; refine (i_under (some ⟨b, off, none⟩) n c q l x.name _ (hr.below hbd) hn HOK.out HS.out hfq).mono ?_; rintro e w3 ⟨gu, mu, cu, rfl, hgu, hbu⟩)
                | (go_at_call 58; have hcon := i_ContainsS _ _ cu (undN l q) x.name w3 hgu.rd (by have := hgu.len; have := hlen.out; omega); rw [hin.out] at hcon; refine hcon.mono ?_; rintro e w4 ⟨rfl, rfl⟩))
            have hb3 := hbd.trans (hbu.mono hbd.size)
            clear hgu hbu
            go_wp2
            go_ret
            exact ⟨ret_bool E.out.symm, hb3⟩
        · by_cases h12 : 12 < n
          · have E : Hid (rolesB l = false) := Lib.hid (rolesBy_long (by have := Hl.out; omega))
            have hd : decide ((n : Int) ≤ 12) = false := decide_eq_false (by omega)
            have hcall := i_few (n : Int) 12 wr (by omega) (by omega)
            rw [hd] at hcall
            go_wp2_with fail
            refine hcall.mono ?_
            rintro e w2 ⟨rfl, rfl⟩
            go_wp2
            go_ret
            exact ⟨ret_bool E.out.symm, hb⟩
          · have E : Hid (rolesB l = true) := Lib.hid (rolesBy_true (by have := Hl.out; omega) HOK.out (fun i hi => HQ.out i (by have := Hl.out; omega)))
            have hd : decide ((n : Int) ≤ 12) = true := decide_eq_true (by omega)
            have hcall := i_few (n : Int) 12 wr (by omega) (by omega)
            rw [hd] at hcall
            go_wp2_with fail
            refine hcall.mono ?_
            rintro e w2 ⟨rfl, rfl⟩
            go_wp2
            go_ret
            exact ⟨ret_bool E.out.symm, hb⟩

end Go.Proofs.Ytepegiklnhoobaa

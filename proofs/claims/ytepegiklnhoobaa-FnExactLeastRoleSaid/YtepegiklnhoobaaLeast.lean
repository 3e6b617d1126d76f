/- LeastRole. -/
import Derived.Test.YtepegiklnhoobaaRows
import Derived.Test.YtepegiklnhoobaaLeastLaw
import Derived.Test.YtepegiklnhoobaaRightsS
import Derived.Test.YtepegiklnhoobaaNeedI
namespace Go.Proofs.Ytepegiklnhoobaa
set_option linter.unusedVariables false
set_option linter.unusedSimpArgs false
set_option linter.unusedSectionVars false
open Go.RowKit Go.Maps

theorem ret_si {s s' : ByteArray} {i i' : Int} (h : s = s') (h' : i = i') : Ending.returned (.tuple #[.string s', .int .i64 i']) = .returned (.tuple #[.string s, .int .i64 i]) := by rw [h, h']
theorem wpList_len {P : Program} {w : World} {ops : Array Oper} {rest : List Oper} {o : Oper} {a : Act} {Q : Exit → Act → World → Prop} (hw : Region.wanted o (yielded ops a.tmps) = true) (s : Operand) (t : TypeId)
    (ho : o.op = .call { callee := .builtin .len, args := #[s], argTypes := #[t] }) (v : Value) (hs : a.eval s = v) (k : Int)
    (hr : (Builtin.len_ #[t] o.type #[v]).run P w = .ok (.int .i64 k) w) (h : wpList P ops Q rest (a.put o.dst (.int .i64 k)) w) :
    wpList P ops Q (o :: rest) a w := by
  unfold wpList
  rw [if_pos hw]
  left
  unfold Oper.wp execOp
  simp only [ho, resolve, invoke, builtin, Sem.run_bind, Sem.run_pure, Result.andThen_ok, List.map_toArray, List.map_cons, List.map_nil, hs, hr]
  exact h

set_option maxRecDepth 100000 in
set_option maxHeartbeats 4000000 in
theorem S_LeastRole (A1 : Option Addr) (n1 c1 : Nat) (rl : List DRole) (A : Option Addr) (n c : Nat) (l : List DGrant) (o : ByteArray) (act : Int) (w : World) (hrl : RdRole w A1 n1 rl) (hn1 : n1 ≤ 1048576) (hg1 : ∀ x ∈ rl, x.good) (hs1 : sumRole rl ≤ 1048576)
    (hr : Rd grantE w A n l) (hn : n ≤ 1048576) (hg : ∀ x ∈ l, x.good) (hs : sumGrant l ≤ 1048576) (hz : o.size ≤ 1048576) (ha1 : -9223372036854775808 ≤ act) (ha2 : act ≤ 9223372036854775807) :
    Calls Try.prog 42 #[.slice A1 n1 c1, .slice A n c, .string o, .int .i64 act] w (fun e w' => e = .returned (.tuple #[.string (leastName rl l o act), .int .i64 (leastCode rl l o act)]) ∧ Below w.heap.size w w') := by
  have Hl1 := Lib.hid hrl.len
  have hok := s_l28Ok A1 A n1 c1 n c rl l w hrl hn1 hg1 hs1 hr (by unfold maxLen; omega) hg
  rcases hB : grantsB rl l with _ | _
  · have E := Lib.hid (least_bad (o := o) (act := act) hB)
    rw [hB] at hok
    clear hB
    go_enter Try.func42, Try.ntmps42
    go_wp2_with fail
    refine hok.mono ?_
    rintro e w1 ⟨rfl, hb1⟩
    clear hok
    go_wp2
    go_ret2
    exact ⟨ret_si E.out.1 E.out.2, hb1⟩
  · have HB := Lib.hid hB
    rw [hB] at hok
    clear hB
    have hA := fun W => s_l28Action act W
    rcases hin : inB act 1 3 with _ | _
    · have E := Lib.hid (least_range (o := o) HB.out hin)
      rw [hin] at hA
      clear hin
      go_enter Try.func42, Try.ntmps42
      go_wp2_with fail
      refine hok.mono ?_
      rintro e w1 ⟨rfl, hb1⟩
      clear hok
      go_wp2_with fail
      refine (hA _).mono ?_
      rintro e w2 ⟨rfl, rfl⟩
      clear hA
      go_wp2
      go_ret2
      exact ⟨ret_si E.out.1 E.out.2, hb1⟩
    · have HIN := Lib.hid hin
      rw [hin] at hA
      clear hin
      go_enter Try.func42, Try.ntmps42
      go_wp2_with fail
      refine hok.mono ?_
      rintro e w1 ⟨rfl, hb1⟩
      clear hok
      go_wp2_with fail
      refine (hA _).mono ?_
      rintro e w2 ⟨rfl, rfl⟩
      clear hA
      go_wp2_with fail
      go_loopw [10, 11, 12] (fun b s i wr => ∃ k : Nat, k ≤ n1 ∧ i = .int .i64 k ∧ Below w.heap.size w wr ∧ ((b = .int .i64 (-1) ∧ s = .int .i64 0 ∧ Hid (leastTo rl l o act k = none)) ∨ (∃ ib : Nat, b = .int .i64 ib ∧ s = .int .i64 (cntR rl l ib) ∧ ib < k ∧ Hid (leastTo rl l o act k = some ib)))) (fun _ _ i _ => n1 - (intOf i).toNat)
      case atStart => exact ⟨0, Nat.zero_le _, rfl, hb1, .inl ⟨rfl, rfl, Lib.hid rfl⟩⟩
      case round =>
        clear hb1
        obtain ⟨k, hk, rfl, hb, hst⟩ := hrel
        by_cases hlt : k < n1
        · obtain ⟨xk, hxk⟩ : ∃ x, rl[k]? = some x := ⟨_, List.getElem?_eq_getElem (by have := Hl1.out; omega)⟩
          have hmay := s_l28May A1 n1 c1 rl A n c l k o act wr (hrl.below hb) hn1 hs1 (hr.below hb) hn (grants_roles HB.out) (sorted_of_grants HB.out).ok
          have hri := fun W (hW : Below w.heap.size w W) => s_l28Rights A1 n1 c1 rl A n c l k xk W (hrl.below hW) hn1 hs1 (hr.below hW) hn (grants_roles HB.out) (sorted_of_grants HB.out).ok hxk
          have HLEN : Hid (∀ m, (toG xk.name (rows rl l k)).length = m → m = cntR rl l k) := Lib.hid (fun m h => by
            rw [← h]
            unfold toG cntR
            rw [List.length_map, rows_card (sorted_of_grants HB.out).ok])
          clear hxk
          rcases hm : mayB rl l k o act with _ | _
          · have HK := Lib.hid (least_out hm)
            rw [hm] at hmay
            clear hm hri
            go_wp2_with fail
            refine hmay.mono ?_
            rintro e w3 ⟨rfl, hb3⟩
            have hbF := hb.trans (hb3.mono hb.size)
            clear hmay
            rcases hst with ⟨rfl, rfl, HS⟩ | ⟨ib, rfl, rfl, hib, HS⟩
            · go_wp2
              first | (refine ⟨⟨k + 1, by omega, by go_num, hbF, .inl ⟨rfl, rfl, Lib.hid (HK.out.trans HS.out)⟩⟩, ?_⟩; (simp [intOf]; omega)) | (go_roundw; (case rel => first | exact ⟨k + 1, by omega, by go_num, hbF, .inl ⟨rfl, rfl, Lib.hid (HK.out.trans HS.out)⟩⟩ | ((try refine ⟨trivial, ?_⟩); (repeat apply Exists.intro); exact ⟨⟨k + 1, by omega, by go_num, hbF, .inl ⟨rfl, rfl, Lib.hid (HK.out.trans HS.out)⟩⟩, rfl⟩)); (case measure => (simp [intOf]; omega)))
            · go_wp2
              first | (refine ⟨⟨k + 1, by omega, by go_num, hbF, .inr ⟨ib, rfl, rfl, by omega, Lib.hid (HK.out.trans HS.out)⟩⟩, ?_⟩; (simp [intOf]; omega)) | (go_roundw; (case rel => first | exact ⟨k + 1, by omega, by go_num, hbF, .inr ⟨ib, rfl, rfl, by omega, Lib.hid (HK.out.trans HS.out)⟩⟩ | ((try refine ⟨trivial, ?_⟩); (repeat apply Exists.intro); exact ⟨⟨k + 1, by omega, by go_num, hbF, .inr ⟨ib, rfl, rfl, by omega, Lib.hid (HK.out.trans HS.out)⟩⟩, rfl⟩)); (case measure => (simp [intOf]; omega)))
          · have HK := Lib.hid (least_in hm)
            rw [hm] at hmay
            clear hm
            go_wp2_with fail
            refine hmay.mono ?_
            rintro e w3 ⟨rfl, hb3⟩
            have hbF := hb.trans (hb3.mono hb.size)
            clear hmay
            go_wp2_with fail
            refine (hri _ hbF).mono ?_
            intro e w4 hret
            obtain ⟨A4, n4, c4, hl4, hn4, _, rfl, hb4⟩ := hret.rd
            obtain rfl := HLEN.out n4 hl4
            have hbG := hbF.trans (hb4.mono hbF.size)
            clear hret hri hl4 HLEN
            rcases hst with ⟨rfl, rfl, HS⟩ | ⟨ib, rfl, rfl, hib, HS⟩
            · have HN : Hid (leastTo rl l o act (k + 1) = some k) := Lib.hid (by rw [HK.out, HS.out]; rfl)
              go_wp2
              first | (refine ⟨⟨k + 1, by omega, by go_num, hbG, .inr ⟨k, rfl, rfl, by omega, HN⟩⟩, ?_⟩; (simp [intOf]; omega)) | (go_roundw; (case rel => first | exact ⟨k + 1, by omega, by go_num, hbG, .inr ⟨k, rfl, rfl, by omega, HN⟩⟩ | ((try refine ⟨trivial, ?_⟩); (repeat apply Exists.intro); exact ⟨⟨k + 1, by omega, by go_num, hbG, .inr ⟨k, rfl, rfl, by omega, HN⟩⟩, rfl⟩)); (case measure => (simp [intOf]; omega)))
            · have h0 : decide ((ib : Int) < 0) = false := decide_eq_false (by omega)
              by_cases hc : cntR rl l k < cntR rl l ib
              · have HN : Hid (leastTo rl l o act (k + 1) = some k) := Lib.hid (by rw [HK.out, HS.out, best_less hc])
                go_wp2
                first | (refine ⟨⟨k + 1, by omega, by go_num, hbG, .inr ⟨k, rfl, rfl, by omega, HN⟩⟩, ?_⟩; (simp [intOf]; omega)) | (go_roundw; (case rel => first | exact ⟨k + 1, by omega, by go_num, hbG, .inr ⟨k, rfl, rfl, by omega, HN⟩⟩ | ((try refine ⟨trivial, ?_⟩); (repeat apply Exists.intro); exact ⟨⟨k + 1, by omega, by go_num, hbG, .inr ⟨k, rfl, rfl, by omega, HN⟩⟩, rfl⟩)); (case measure => (simp [intOf]; omega)))
              · have HN : Hid (leastTo rl l o act (k + 1) = some ib) := Lib.hid (by rw [HK.out, HS.out, best_more hc])
                go_wp2
                first | (refine ⟨⟨k + 1, by omega, by go_num, hbG, .inr ⟨ib, rfl, rfl, by omega, HN⟩⟩, ?_⟩; (simp [intOf]; omega)) | (go_roundw; (case rel => first | exact ⟨k + 1, by omega, by go_num, hbG, .inr ⟨ib, rfl, rfl, by omega, HN⟩⟩ | ((try refine ⟨trivial, ?_⟩); (repeat apply Exists.intro); exact ⟨⟨k + 1, by omega, by go_num, hbG, .inr ⟨ib, rfl, rfl, by omega, HN⟩⟩, rfl⟩)); (case measure => (simp [intOf]; omega)))
        · have HKN : Hid (k = rl.length) := Lib.hid (by have := Hl1.out; omega)
          rcases hst with ⟨rfl, rfl, HS⟩ | ⟨ib, rfl, rfl, hib, HS⟩
          · have E := Lib.hid (least_none HB.out HIN.out (by have := HS.out; rw [HKN.out] at this; exact this))
            go_wp2
            go_ret2
            exact ⟨ret_si E.out.1 E.out.2, hb⟩
          · obtain ⟨b, off, x, A', n', c', hA, hx, hc, hru⟩ := hrl.get (k := ib) (by omega)
            subst hA
            have hc0 := range_below (B := 0) hc hb 0 _ rfl
            simp only [Nat.add_zero] at hc0
            have E := Lib.hid (least_some HB.out HIN.out (by have := HS.out; rw [HKN.out] at this; exact this) hx)
            have h0 : decide ((ib : Int) < 0) = false := decide_eq_false (by omega)
            have h1 : (0 : Int) ≤ (ib : Int) := by omega
            have h2 : (ib : Int) < (n1 : Int) := by omega
            clear hc hx hru
            go_wp2
            go_ret2
            exact ⟨ret_si E.out.1 E.out.2, hb⟩

set_option maxRecDepth 100000 in
set_option maxHeartbeats 4000000 in
theorem I_LeastRole (A1 : Option Addr) (n1 c1 : Nat) (rl : List DRole) (A : Option Addr) (n c : Nat) (l : List DGrant) (o : ByteArray) (act : Int) (w : World) (hrl : RdRole w A1 n1 rl) (hn1 : n1 ≤ 1048576) (hg1 : ∀ x ∈ rl, x.good) (hs1 : sumRole rl ≤ 1048576)
    (hr : Rd grantE w A n l) (hn : n ≤ 1048576) (hg : ∀ x ∈ l, x.good) (hs : sumGrant l ≤ 1048576) (hz : o.size ≤ 1048576) (ha1 : -9223372036854775808 ≤ act) (ha2 : act ≤ 9223372036854775807) :
    Calls Try.prog 43 #[.slice A1 n1 c1, .slice A n c, .string o, .int .i64 act] w (fun e w' => e = .returned (.tuple #[.string (leastName rl l o act), .int .i64 (leastCode rl l o act)]) ∧ Below w.heap.size w w') := by
  have Hl1 := Lib.hid hrl.len
  have hwho := I_WhoMay A1 n1 c1 rl A n c l o act w hrl hn1 hg1 hs1 hr hn hg hs hz ha1 ha2
  rcases hB : grantsB rl l with _ | _
  · have E := Lib.hid (least_bad (o := o) (act := act) hB)
    rw [(who_bad (o := o) (act := act) hB).1, (who_bad (o := o) (act := act) hB).2] at hwho
    clear hB
    go_enter Try.func43, Try.ntmps43
    go_wp2_with fail
    refine hwho.mono ?_
    rintro e w1 ⟨A4, n4, c4, hl4, hn4, ho4, rfl, hb1⟩
    clear hwho ho4
    go_wp2
    go_ret2
    exact ⟨ret_si E.out.1 E.out.2, hb1⟩
  · rcases hin : inB act 1 3 with _ | _
    · have E := Lib.hid (least_range (o := o) hB hin)
      rw [(who_range (o := o) hB hin).1, (who_range (o := o) hB hin).2] at hwho
      clear hin hB
      go_enter Try.func43, Try.ntmps43
      go_wp2_with fail
      refine hwho.mono ?_
      rintro e w1 ⟨A4, n4, c4, hl4, hn4, ho4, rfl, hb1⟩
      clear hwho ho4
      go_wp2
      go_ret2
      exact ⟨ret_si E.out.1 E.out.2, hb1⟩
    · have hgo := (sorted_of_grants hB).ok
      have hnames := who_names (o := o) hgo hin rl.length (Nat.le_refl _)
      rw [(who_ok (o := o) hB hin).1, (who_ok (o := o) hB hin).2] at hwho
      unfold whoN at hwho
      rw [hnames] at hwho
      have HB := Lib.hid hB
      have HIN := Lib.hid hin
      clear hin hB hnames hgo
      go_enter Try.func43, Try.ntmps43
      go_wp2_with fail
      refine hwho.mono ?_
      rintro e w1 ⟨A4, n4, c4, hl4, hn4, ho4, rfl, hb1⟩
      have hgl : GL strE 9 w.heap.size w1 (.slice A4 n4 c4) ((mayI rl l o act rl.length).map (nmR rl)) := by
        have ho4' := ho4
        unfold GL
        rw [hl4]
        exact ho4'
      have hrN := hgl.rd
      rw [List.length_map] at hl4
      have HL4 := Lib.hid hl4
      clear hwho ho4 hl4 hgl
      go_wp2_with fail
      go_loopw [12, 28] (fun b i wr => ∃ m : Nat, m ≤ n4 ∧ i = .int .i64 m ∧ Below w1.heap.size w1 wr ∧ ((b = .string ⟨#[]⟩ ∧ Hid (bestF (cntR rl l) ((mayI rl l o act rl.length).take m) = none)) ∨ (∃ (ib : Nat) (x : DRole), b = .string x.name ∧ Hid (rl[ib]? = some x) ∧ Hid (bestF (cntR rl l) ((mayI rl l o act rl.length).take m) = some ib)))) (fun _ i _ => n4 - (intOf i).toNat)
      case atStart => exact ⟨0, Nat.zero_le _, rfl, Below.refl _ _, .inl ⟨rfl, Lib.hid rfl⟩⟩
      case round =>
        obtain ⟨m, hm, rfl, hb, hst⟩ := hrel
        have hbW := hb1.trans (hb.mono hb1.size)
        by_cases hlt : m < n4
        · obtain ⟨bo, oo, nm, rfl, hnm, hcn⟩ := hrN.get hlt
          have hn0 := range_below (B := 0) hcn hb 0 (.string nm) rfl
          simp only [strE, Nat.mul_one, Nat.add_zero] at hn0
          obtain ⟨i, hi⟩ : ∃ i, (mayI rl l o act rl.length)[m]? = some i := ⟨_, List.getElem?_eq_getElem (by have := HL4.out; omega)⟩
          have hil : i < rl.length := mayI_lt (List.mem_of_getElem? hi)
          obtain ⟨x, hx⟩ : ∃ x, rl[i]? = some x := ⟨_, List.getElem?_eq_getElem hil⟩
          have hnx : nm = x.name := by
            rw [List.getElem?_map, hi] at hnm
            have := Option.some.inj hnm
            rw [← this, nmR_get hx]
          subst hnx
          have HSN : Hid (bestF (cntR rl l) ((mayI rl l o act rl.length).take (m + 1)) = bestS (cntR rl l) (bestF (cntR rl l) ((mayI rl l o act rl.length).take m)) i) := Lib.hid (by
            rw [List.take_add_one, hi]
            exact best_snoc _ _ _)
          have HX := Lib.hid hx
          have hinj := roles_inj (grants_roles HB.out)
          have hri := fun (k : Nat) (y : DRole) (hy : rl[k]? = some y) W (hW : Below w.heap.size w W) => i_rightsOf A1 n1 c1 rl A n c l k y.name W (hrl.below hW) hn1 hs1 (hr.below hW) hn (grants_roles HB.out) (sorted_of_grants HB.out).ok (fnd_self hinj hy)
          have HRI := Lib.hid hri
          clear hcn hnm hi hil hx hinj hri
          rcases hst with ⟨rfl, HS⟩ | ⟨ib, xb, rfl, HXB, HS⟩
          · have HN : Hid (bestF (cntR rl l) ((mayI rl l o act rl.length).take (m + 1)) = some i) := Lib.hid (by rw [HSN.out, HS.out]; rfl)
            clear hbW
            go_wp2
            first | (refine ⟨⟨m + 1, by omega, by go_num, hb, .inr ⟨i, x, rfl, HX, HN⟩⟩, ?_⟩; (simp [intOf]; omega)) | (go_roundw; (case rel => first | exact ⟨m + 1, by omega, by go_num, hb, .inr ⟨i, x, rfl, HX, HN⟩⟩ | ((try refine ⟨trivial, ?_⟩); (repeat apply Exists.intro); exact ⟨⟨m + 1, by omega, by go_num, hb, .inr ⟨i, x, rfl, HX, HN⟩⟩, rfl⟩)); (case measure => (simp [intOf]; omega)))
          · have hne := name_full ((grants_roles HB.out ib) xb HXB.out).1
            have h1 := HRI.out i x HX.out wr hbW
            have h2 := HRI.out ib xb HXB.out
            by_cases hc : cntR rl l i < cntR rl l ib
            · have HN : Hid (bestF (cntR rl l) ((mayI rl l o act rl.length).take (m + 1)) = some i) := Lib.hid (by rw [HSN.out, HS.out, best_less hc])
              go_wp2_with fail
              refine h1.mono ?_
              rintro e w3 ⟨bm1, cn1, rfl, hm1, hb3⟩
              have hbW3 := hbW.trans (hb3.mono hbW.size)
              have h2' := h2 w3 hbW3
              have hl1 := hm1.len
              clear h1 h2 hbW
              go_wp2_with (first
                | (at_builtin; refine wpList_len rfl _ _ rfl _ rfl _ (hl1 _) ?_))
              refine h2'.mono ?_
              rintro e w4 ⟨bm2, cn2, rfl, hm2, hb4⟩
              have hl2 := hm2.len
              have hbF := (hb.trans (hb3.mono hb.size)).trans (hb4.mono (hb.trans (hb3.mono hb.size)).size)
              clear h2' hm1 hl1 hbW3
              go_wp2_with (first
                | (at_builtin; refine wpList_len rfl _ _ rfl _ rfl _ (hl2 _) ?_))
              first | (refine ⟨⟨m + 1, by omega, by go_num, hbF, .inr ⟨i, x, rfl, HX, HN⟩⟩, ?_⟩; (simp [intOf]; omega)) | (go_roundw; (case rel => first | exact ⟨m + 1, by omega, by go_num, hbF, .inr ⟨i, x, rfl, HX, HN⟩⟩ | ((try refine ⟨trivial, ?_⟩); (repeat apply Exists.intro); exact ⟨⟨m + 1, by omega, by go_num, hbF, .inr ⟨i, x, rfl, HX, HN⟩⟩, rfl⟩)); (case measure => (simp [intOf]; omega)))
            · have HN : Hid (bestF (cntR rl l) ((mayI rl l o act rl.length).take (m + 1)) = some ib) := Lib.hid (by rw [HSN.out, HS.out, best_more hc])
              go_wp2_with fail
              refine h1.mono ?_
              rintro e w3 ⟨bm1, cn1, rfl, hm1, hb3⟩
              have hbW3 := hbW.trans (hb3.mono hbW.size)
              have h2' := h2 w3 hbW3
              have hl1 := hm1.len
              clear h1 h2 hbW
              go_wp2_with (first
                | (at_builtin; refine wpList_len rfl _ _ rfl _ rfl _ (hl1 _) ?_))
              refine h2'.mono ?_
              rintro e w4 ⟨bm2, cn2, rfl, hm2, hb4⟩
              have hl2 := hm2.len
              have hbF := (hb.trans (hb3.mono hb.size)).trans (hb4.mono (hb.trans (hb3.mono hb.size)).size)
              clear h2' hm1 hl1 hbW3
              go_wp2_with (first
                | (at_builtin; refine wpList_len rfl _ _ rfl _ rfl _ (hl2 _) ?_))
              first | (refine ⟨⟨m + 1, by omega, by go_num, hbF, .inr ⟨ib, xb, rfl, HXB, HN⟩⟩, ?_⟩; (simp [intOf]; omega)) | (go_roundw; (case rel => first | exact ⟨m + 1, by omega, by go_num, hbF, .inr ⟨ib, xb, rfl, HXB, HN⟩⟩ | ((try refine ⟨trivial, ?_⟩); (repeat apply Exists.intro); exact ⟨⟨m + 1, by omega, by go_num, hbF, .inr ⟨ib, xb, rfl, HXB, HN⟩⟩, rfl⟩)); (case measure => (simp [intOf]; omega)))
        · have HT : Hid (bestF (cntR rl l) ((mayI rl l o act rl.length).take m) = leastTo rl l o act rl.length) := Lib.hid (by
            rw [List.take_of_length_le (by have := HL4.out; omega)]
            rfl)
          clear hb
          rcases hst with ⟨rfl, HS⟩ | ⟨ib, xb, rfl, HXB, HS⟩
          · have E := Lib.hid (least_none HB.out HIN.out (HT.out.symm.trans HS.out))
            go_wp2
            go_ret2
            exact ⟨ret_si E.out.1 E.out.2, hbW⟩
          · have hne := name_full ((grants_roles HB.out ib) xb HXB.out).1
            have E := Lib.hid (least_some HB.out HIN.out (HT.out.symm.trans HS.out) HXB.out)
            go_wp2
            go_ret2
            exact ⟨ret_si E.out.1 E.out.2, hbW⟩

end Go.Proofs.Ytepegiklnhoobaa

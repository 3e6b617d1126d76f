/- All rights of a role (the reference's l28Rights). -/
import Derived.Test.YtepegiklnhoobaaRows
import Derived.Test.YtepegiklnhoobaaPutLaw
import Derived.Test.YtepegiklnhoobaaMayS
import Derived.Deep.RegionHeld3
namespace Go.Proofs.Ytepegiklnhoobaa
set_option linter.unusedVariables false
set_option linter.unusedSimpArgs false
set_option linter.unusedSectionVars false
open Go.RowKit Go.Maps

theorem objsTo_zero (l : List DGrant) : objsTo l 0 = [] := rfl
theorem rowsTo_zero (rl : List DRole) (l : List DGrant) (j : Nat) : rowsTo rl l j 0 = [] := rfl
theorem rowTo_zero (rl : List DRole) (l : List DGrant) (j : Nat) (o : ByteArray) : rowTo rl l j o 0 = [] := rfl
theorem toG_snoc (nm : ByteArray) (L : List Rt) (p : Rt) : toG nm (L ++ [p]) = toG nm L ++ [⟨nm, p.1, p.2⟩] := by simp [toG]

theorem step_pushO {P : Program} {α : Type} (E : Enc α) {ops : Array Oper} {o : Oper} {a : Act} {w : World} {K : Act → World → Prop} {Q : Exit → Act → World → Prop} {G : Prop} (hgd : o.guard = none) (s x : Operand) (t : TypeId)
    (ho : o.op = .call { callee := .builtin .append, args := #[s, x], argTypes := #[t, t] })
    (base : Nat) (e : TypeId) (i : TypeInfo) (z : Value) (bytes : Nat) (ht : P.underlying t = some (.slice e)) (hi : P.info? e = some i) (hz : i.zero = some z)
    (hsize : i.size = E.k) (hby : i.bytes = bytes) (hzs : z.cells.size = E.k)
    (A : Option Addr) (n c : Nat) (l : List α) (y : α) (hs : a.eval s = .slice A n c) (hgl : GL E e base w (.slice A n c) l)
    (g : Nat) (hx : a.eval x = .slice (some ⟨g, 0, none⟩) 1 1) (hnew : w.rangeAt g 0 (E.cells y))
    (hlen : n + 1 ≤ 8388608) (hbytes : bytes ≤ 4096) (hbase : base ≤ w.heap.size)
    (h : ∀ A' c' w', GL E e base w' (.slice A' (n + 1) c') (l ++ [y]) → Touch (fun k => Value.ownBlock (.slice A n c) = some k) w w' → (∀ k, Value.ownBlock (.slice A' (n + 1) c') = some k → Value.ownBlock (.slice A n c) = some k ∨ w.heap.size ≤ k) → K (a.put o.dst (.slice A' (n + 1) c')) w') : if Region.wanted o (yielded ops a.tmps) = true then Oper.wp P o a w K Q else G := by
  have hw : Region.wanted o (yielded ops a.tmps) = true := by simp [Region.wanted, hgd]
  rw [if_pos hw]
  have hol := hgl.own
  obtain ⟨v', w', hr, h2, h3, h4⟩ := run_push_block (P := P) (w := w) base t o.type e i z E.k bytes ht hi hz hsize hby hzs E.pos (.slice A n c) n (l.flatMap E.cells) hol.2 ⟨g, 0, none⟩ 1 (E.cells y) (by rw [E.len, Nat.one_mul])
    (fun j u hu => by have := hnew j u hu; rw [Nat.zero_add] at this; rw [addr_add, Nat.zero_add]; exact this) (E.one y) (by unfold maxLen; omega) (Nat.le_trans (Nat.mul_le_mul hlen hbytes) (by decide)) hbase
  have hv : ∃ A' c', v' = .slice A' (n + 1) c' := by
    rcases h2.2 with ⟨rfl, h0⟩ | ⟨g', cap, cur, rfl, _⟩
    · exact absurd h0 (by omega)
    · exact ⟨_, _, rfl⟩
  obtain ⟨A', c', rfl⟩ := hv
  unfold Oper.wp execOp
  simp only [ho, resolve, invoke, builtin, Sem.run_bind, Sem.run_pure, Result.andThen_ok, List.map_toArray, List.map_cons, List.map_nil, hs, hx, hr]
  refine (h A' c' w' ?_ ⟨h3.os, h3.tape, h3.output, h3.size, fun k hk hnF => h3.block k hk fun e' => hnF e'.symm⟩ fun k hk => ?_)
  · unfold GL
    rw [List.flatMap_append]
    simpa [hol.1] using h2
  · rcases h4 k hk with h' | rfl
    · exact .inl h'
    · exact .inr (Nat.le_refl _)

set_option maxRecDepth 100000 in
set_option maxHeartbeats 4000000 in
theorem s_l28Rights (A1 : Option Addr) (n1 c1 : Nat) (rl : List DRole) (A : Option Addr) (n c : Nat) (l : List DGrant) (j : Nat) (xj : DRole) (w : World) (hrl : RdRole w A1 n1 rl) (hn1 : n1 ≤ 1048576) (hs1 : sumRole rl ≤ 1048576)
    (hr : Rd grantE w A n l) (hn : n ≤ 1048576) (hok : ∀ i, RoleOk nameB rl i) (hgo : ∀ x ∈ l, okG rl x = true) (hxj : rl[j]? = some xj) :
    Calls Try.prog 78 #[.slice A1 n1 c1, .slice A n c, .int .i64 j] w (RetL grantE 50 (toG xj.name (rows rl l j)) w) := by
  have Hl := Lib.hid hr.1
  have Hl1 := Lib.hid hrl.len
  have HOK := Lib.hid hok
  have HGO := Lib.hid hgo
  have HXJ := Lib.hid hxj
  have hj1 : j < n1 := by
    have := (List.getElem?_eq_some_iff.1 hxj).1
    have := Hl1.out
    omega
  clear hok hgo hxj
  obtain ⟨i0, hi, hz0, hz1, hz2⟩ := info_parts Try.info_str
  have HZ := Lib.hid (And.intro hz0 hz1); clear hz0 hz1
  obtain ⟨j0, gi, gz0, gz1, gz2⟩ := info_parts Try.inf_Grant
  have GZ := Lib.hid (And.intro gz0 gz1); clear gz0 gz1
  have hgl0 : GL strE 9 w.heap.size (w.alloc (.cells #[] 9)) (.slice (some ⟨w.heap.size, 0, none⟩) 0 0) [] := GL.mk0 (Nat.le_refl _)
  have hb0 : Below w.heap.size w (w.alloc (.cells #[] 9)) := (Below.refl _ _).alloc (Nat.le_refl _) _
  go_enter Try.func78, Try.ntmps78
  go_wp2_with fail
  go_loopw [7, 8] (fun v i wr => ∃ (k z : Nat) (A' : Option Addr) (c' : Nat), k ≤ n ∧ i = .int .i64 k ∧ v = .slice A' z c' ∧ GL strE 9 w.heap.size wr (.slice A' z c') (objsTo l k) ∧ z ≤ k ∧ Below w.heap.size w wr) (fun _ i _ => n - (intOf i).toNat)
  case atStart => exact ⟨0, 0, _, _, Nat.zero_le _, rfl, rfl, hgl0, Nat.le_refl _, hb0⟩
  case round =>
    clear hgl0 hb0
    obtain ⟨k, z, A', c', hk, rfl, rfl, hgl, hzk, hb⟩ := hrel
    by_cases hlt : k < n
    · obtain ⟨b, off, x, rfl, hx, hc⟩ := hr.get hlt
      have hc1 := range_below (B := 0) hc hb 1 (.string x.fObject) rfl
      simp only [grantE] at hc1
      have HX := Lib.hid hx
      have hput := s_l28Put w.heap.size A' z c' (objsTo l k) x.fObject w wr hgl hb hb.size (by omega)
      clear hx hc
      go_wp2_with fail
      refine hput.mono ?_
      rintro e w1 ⟨A2, z2, c2, rfl, hgl2, hb2, hz2'⟩
      rw [← objs_step HX.out] at hgl2
      clear hput hgl
      go_wp2
      first | (refine ⟨⟨k + 1, z2, A2, c2, by omega, by go_num, rfl, hgl2, by omega, hb2⟩, ?_⟩; (simp [intOf]; omega)) | (go_roundw; (case rel => first | exact ⟨k + 1, z2, A2, c2, by omega, by go_num, rfl, hgl2, by omega, hb2⟩ | ((try refine ⟨trivial, ?_⟩); (repeat apply Exists.intro); exact ⟨⟨k + 1, z2, A2, c2, by omega, by go_num, rfl, hgl2, by omega, hb2⟩, rfl⟩)); (case measure => (simp [intOf]; omega)))
    · obtain ⟨wA, rfl⟩ : ∃ wA : World, wA = wr := ⟨_, rfl⟩
      have hkn : objsTo l k = objs l := by unfold objs; rw [show k = l.length by have := Hl.out; omega]
      rw [hkn] at hgl
      have hzz : z = (objs l).length := hgl.len.symm
      have HZL := Lib.hid hzz
      clear hkn hzz
      have hglD : GL grantE 50 w.heap.size (wA.alloc (.cells #[] 50)) (.slice (some ⟨wA.heap.size, 0, none⟩) 0 0) (toG xj.name (rowsTo rl l j 0)) := GL.mk0 hb.size
      have hbD : Below w.heap.size w (wA.alloc (.cells #[] 50)) := hb.alloc hb.size _
      have hbO : Below wA.heap.size wA (wA.alloc (.cells #[] 50)) := (Below.refl _ _).alloc (Nat.le_refl _) _
      have hbs := hb.size
      go_wp2_with fail
      go_loopw [9, 10] (fun v i wq => ∃ (i2 y : Nat) (A2 : Option Addr) (c2 : Nat), i2 ≤ z ∧ i = .int .i64 i2 ∧ v = .slice A2 y c2 ∧ GL grantE 50 wA.heap.size wq (.slice A2 y c2) (toG xj.name (rowsTo rl l j i2)) ∧ y ≤ 3 * i2 ∧ Below wA.heap.size wA wq) (fun _ i _ => z - (intOf i).toNat)
      case atStart => exact ⟨0, 0, _, _, Nat.zero_le _, rfl, rfl, GL.mk0 (Nat.le_refl _), by omega, hbO⟩
      case round =>
        clear hglD hbD hbO
        obtain ⟨i2, y, A2, c2, hi2, rfl, rfl, hglq, hy3, hbq⟩ := hrel
        by_cases hlt2 : i2 < z
        · obtain ⟨bo, oo, o, rfl, ho, hco⟩ := hgl.rd.get hlt2
          have HO := Lib.hid ho
          have HCO := Lib.hid hco
          clear ho hco
          have hst : rowsTo rl l j i2 = rowsTo rl l j i2 ++ rowTo rl l j o 0 := by rw [rowTo_zero, List.append_nil]
          rw [hst] at hglq
          clear hst
          obtain ⟨wo, rfl⟩ : ∃ wo : World, wo = wr := ⟨_, rfl⟩
          go_wp2_with fail
          go_loopw [9, 11] (fun v i wr => ∃ (a y' : Nat) (A3 : Option Addr) (c3 : Nat), a ≤ 3 ∧ i = .int .i64 ((a : Int) + 1) ∧ v = .slice A3 y' c3 ∧ GL grantE 50 wA.heap.size wr (.slice A3 y' c3) (toG xj.name (rowsTo rl l j i2 ++ rowTo rl l j o a)) ∧ y' ≤ 3 * i2 + a ∧ Below wA.heap.size wA wr) (fun _ i _ => 4 - (intOf i).toNat)
          case atStart => exact ⟨0, y, A2, c2, by omega, rfl, rfl, hglq, by omega, hbq⟩
          case round =>
            clear hglq hbq
            obtain ⟨a, y', A3, c3, ha, rfl, rfl, hglx, hy', hbx⟩ := hrel
            by_cases hlt3 : a < 3
            · have hle : decide ((a : Int) + 1 ≤ 3) = true := decide_eq_true (by omega)
              have hbW := hb.trans (hbx.mono hbs)
              have hmay := s_l28May A1 n1 c1 rl A n c l j o ((a : Int) + 1) wr (hrl.below hbW) hn1 hs1 (hr.below hbW) hn HOK.out HGO.out
              have hco0 := range_below (B := 0) HCO.out hbx 0 (.string o) rfl
              simp only [strE, Nat.mul_one, Nat.add_zero] at hco0
              rcases hm : mayB rl l j o ((a : Int) + 1) with _ | _
              · have HK : Hid (rowTo rl l j o (a + 1) = rowTo rl l j o a) := Lib.hid (row_out hm)
                rw [hm] at hmay
                clear hm
                go_wp2_with fail
                refine hmay.mono ?_
                rintro e w6 ⟨rfl, hb6⟩
                have hgl6 := hglx.below (hb6.mono (by omega))
                have hbF := hbx.trans (hb6.mono hbx.size)
                rw [← HK.out] at hgl6
                clear hmay
                go_wp2
                first | (refine ⟨⟨a + 1, y', A3, c3, by omega, by go_num, rfl, hgl6, by omega, hbF⟩, ?_⟩; (simp [intOf]; omega)) | (go_roundw; (case rel => first | exact ⟨a + 1, y', A3, c3, by omega, by go_num, rfl, hgl6, by omega, hbF⟩ | ((try refine ⟨trivial, ?_⟩); (repeat apply Exists.intro); exact ⟨⟨a + 1, y', A3, c3, by omega, by go_num, rfl, hgl6, by omega, hbF⟩, rfl⟩)); (case measure => (simp [intOf]; omega)))
              · have HK : Hid (rowTo rl l j o (a + 1) = rowTo rl l j o a ++ [(o, (a : Int) + 1)]) := Lib.hid (row_in hm)
                rw [hm] at hmay
                clear hm
                obtain ⟨br, ofr, xr, AU, nu, cu, hA1, hxr, hcr, hru⟩ := hrl.get hj1
                subst hA1
                have hxe : xr = xj := by
                  have := HXJ.out
                  rw [hxr] at this
                  exact Option.some.inj this
                subst hxe
                have hcr0 := range_below (B := 0) hcr hbW 0 (.string xr.name) rfl
                simp only [Nat.add_zero] at hcr0
                have HRC : Hid (wA.cell? ⟨br, ofr + j * 2, none⟩ = some (.string xr.name)) := Lib.hid (by have := range_below (B := 0) hcr hb 0 (.string xr.name) rfl; simpa using this)
                clear hru hcr hxr
                go_wp2_with fail
                refine hmay.mono ?_
                rintro e w6 ⟨rfl, hb6⟩
                have hgl6 := hglx.below (hb6.mono (by omega))
                have hbF := hbx.trans (hb6.mono hbx.size)
                have q0 := cell_later hb6 hco0
                have q1 := cell_later hb6 hcr0
                have hlo := hgl6.lt
                have hbz := hbF.size
                have hbd := hbF.drew
                have hrc := HRC.out
                have hco := HCO.out 0 (.string o) rfl
                simp only [strE, Nat.mul_one, Nat.add_zero] at hco
                have hgl6d := hgl6.drew
                have hbN : ∀ ob, Below wA.heap.size wA (w6.drew.alloc ob) := fun ob => hbd.alloc hbz ob
                clear hmay hco0 hcr0 hglx hbx q0 q1
                go_wp2_with fail
                go_region_held3 (fun w' => w'.cell? ⟨br, ofr + j * 2, none⟩ = some (.string xr.name) ∧ w'.cell? ⟨bo, oo + i2, none⟩ = some (.string o))
                  (first | exact ⟨cell_later hbd hrc, cell_later hbd hco⟩ | exact ⟨cell_later (hbN _) hrc, cell_later (hbN _) hco⟩ | exact ⟨cell_later hb7 hrc, cell_later hb7 hco⟩)
                  (first | (refine step_pushO grantE rfl _ _ 39 rfl wA.heap.size 50 j0 _ 40 Try.underlying39 gi GZ.out.1 GZ.out.2 gz2 rfl A3 y' c3 (toG xr.name (rowsTo rl l j i2 ++ rowTo rl l j o a)) ⟨xr.name, o, (a : Int) + 1⟩ rfl (hgl6d.alloc _) w6.heap.size rfl (range_new _ _ _) (by omega) (by decide) (by simp; omega) ?_; intro A7 c7 w7 hgl7 ht7 _; have hb7 := Below.touch (hbN (.cells #[.string xr.name, .string o, .int .i64 ((a : Int) + 1)] 50)) ht7 (fun q hq => (hlo q hq).1) (by simp; omega)))
                go_wp2
                rw [← toG_snoc xr.name _ (o, (a : Int) + 1), List.append_assoc, ← HK.out] at hgl7
                first | (refine ⟨⟨a + 1, y' + 1, A7, c7, by omega, by go_num, rfl, hgl7, by omega, hb7⟩, ?_⟩; (simp [intOf]; omega)) | (go_roundw; (case rel => first | exact ⟨a + 1, y' + 1, A7, c7, by omega, by go_num, rfl, hgl7, by omega, hb7⟩ | ((try refine ⟨trivial, ?_⟩); (repeat apply Exists.intro); exact ⟨⟨a + 1, y' + 1, A7, c7, by omega, by go_num, rfl, hgl7, by omega, hb7⟩, rfl⟩)); (case measure => (simp [intOf]; omega)))
            · obtain rfl : a = 3 := by omega
              have hle : decide (((3 : Nat) : Int) + 1 ≤ 3) = false := decide_eq_false (by omega)
              rw [← rows_step HO.out] at hglx
              go_wp2
              first | (refine ⟨⟨i2 + 1, y', A3, c3, by omega, by go_num, rfl, hglx, by omega, hbx⟩, ?_⟩; (simp [intOf]; omega)) | (go_roundw; (case rel => first | exact ⟨i2 + 1, y', A3, c3, by omega, by go_num, rfl, hglx, by omega, hbx⟩ | ((try refine ⟨trivial, ?_⟩); (repeat apply Exists.intro); exact ⟨⟨i2 + 1, y', A3, c3, by omega, by go_num, rfl, hglx, by omega, hbx⟩, rfl⟩)); (case measure => (simp [intOf]; omega)))
        · have E : Hid (toG xj.name (rowsTo rl l j i2) = toG xj.name (rows rl l j)) := Lib.hid (by unfold rows; rw [show i2 = (objs l).length by have := HZL.out; omega])
          have hbF := hb.trans (hbq.mono hbs)
          have hglF := hglq.mono hbs
          go_wp2
          go_ret
          exact RetL.mk hglF (by omega) E.out.symm hbF

end Go.Proofs.Ytepegiklnhoobaa

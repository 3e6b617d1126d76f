/- A name put at its place, once (the reference's l28Put). -/
import Derived.Test.YtepegiklnhoobaaRows
import Derived.Test.YtepegiklnhoobaaAddG
namespace Go.Proofs.Ytepegiklnhoobaa
set_option linter.unusedVariables false
set_option linter.unusedSimpArgs false
set_option linter.unusedSectionVars false
open Go.RowKit

def putK (l : List ByteArray) (x : ByteArray) : Nat := (l.takeWhile fun y => ltS y x).length
open Classical in
noncomputable def putL (l : List ByteArray) (x : ByteArray) : List ByteArray := if l[putK l x]? = some x then l else l.take (putK l x) ++ [x] ++ l.drop (putK l x)
theorem putK_at {l : List ByteArray} {x : ByteArray} : ∀ {k : Nat}, (∀ (j : Nat) z, j < k → l[j]? = some z → ltS z x = true) → (∀ z, l[k]? = some z → ltS z x = false) → k ≤ l.length → putK l x = k := by
  unfold putK
  induction l with
  | nil =>
    intro k _ _ hk
    simp at hk
    simp [hk]
  | cons y r ih =>
    intro k h1 h2 hk
    cases k with
    | zero =>
      have := h2 y rfl
      simp [List.takeWhile_cons, this]
    | succ k =>
      have h0 := h1 0 y (by omega) rfl
      rw [List.takeWhile_cons, h0]
      simp only [if_true, List.length_cons]
      rw [ih (k := k) (fun j z hj hz => h1 (j + 1) z (by omega) hz) (fun z hz => h2 z hz) (by simp at hk; omega)]
theorem put_there {l : List ByteArray} {x : ByteArray} {k : Nat} (hk : putK l x = k) (h : l[k]? = some x) : putL l x = l := by
  unfold putL
  rw [hk, if_pos h]
theorem put_new {l : List ByteArray} {x : ByteArray} {k : Nat} (hk : putK l x = k) (h : l[k]? ≠ some x) : putL l x = l.take k ++ [x] ++ l.drop k := by
  unfold putL
  rw [hk, if_neg h]

set_option maxRecDepth 100000 in
set_option maxHeartbeats 4000000 in
theorem s_l28Put (base : Nat) (A : Option Addr) (n c : Nat) (l : List ByteArray) (x : ByteArray) (w0 w : World) (hgl : GL strE 9 base w (.slice A n c) l) (hb : Below base w0 w) (hbs : base ≤ w.heap.size) (hn : n ≤ 1048576) :
    Calls Try.prog 98 #[.slice A n c, .string x] w fun e w' => ∃ A' n' c', e = .returned (.slice A' n' c') ∧ GL strE 9 base w' (.slice A' n' c') (putL l x) ∧ Below base w0 w' ∧ n' ≤ n + 1 := by
  have hr := hgl.rd
  have hcap := hgl.cap.1
  have Hl := Lib.hid hr.1
  obtain ⟨i0, hi, hz0, hz1, hz2⟩ := info_parts Try.info_str
  have hsize : ∀ w, (Go.sizeOf 9).run Try.prog w = .ok 1 w := fun w => by simp [Go.sizeOf, typeInfo, hi, hz1]
  go_enter Try.func98, Try.ntmps98
  go_wp2_with fail
  go_loop [5] (fun i => ∃ k : Nat, k ≤ n ∧ i = .int .i64 k ∧ Hid (∀ (j : Nat) z, j < k → l[j]? = some z → ltS z x = true)) (fun i => n - (intOf i).toNat)
  case atStart => exact ⟨0, Nat.zero_le _, rfl, Lib.hid (fun j x h => absurd h (Nat.not_lt_zero _))⟩
  case round =>
    obtain ⟨k, hk, rfl, HH⟩ := hrel
    by_cases hlt : k < n
    · obtain ⟨b, off, y, hA, hy, hc⟩ := hr.get hlt
      subst hA
      have hc0 := hc 0 (.string y) rfl
      simp only [strE, Nat.mul_one, Nat.add_zero] at hc0
      have HY := Lib.hid hy
      have HK0 := Lib.hid hc
      clear hc hy
      rcases h1 : Op.bytesLess y.toList x.toList with _ | _
      · have HQ : Hid (putK l x = k) := Lib.hid (putK_at HH.out (fun z hz => by rw [HY.out] at hz; cases hz; exact h1) (by have := Hl.out; omega))
        rcases h2 : y.toList == x.toList with _ | _
        · have HP : Hid (putL l x = l.take k ++ [x] ++ l.drop k) := Lib.hid (put_new HQ.out (fun h => by
            rw [HY.out] at h
            cases h
            rw [eqS_iff] at h2
            exact of_decide_eq_false h2 rfl))
          have hb2 : Below w.heap.size w (w.alloc (.cells #[] 9)) := (Below.refl _ _).alloc (Nat.le_refl _) _
          have hgl0 : GL strE 9 w.heap.size (w.alloc (.cells #[] 9)) (.slice (some ⟨w.heap.size, 0, none⟩) 0 0) [] := GL.mk0 (Nat.le_refl _)
          have hr3 := (hr.below hb2).take k (by omega)
          have hlen : (l.take k).length = k := by rw [List.length_take, Hl.out]; omega
          have hs1 := fun W => run_headS (P := Try.prog) W 29 9 1 Try.underlying29 hsize (some ⟨b, off, none⟩ : Option Addr) n c k (by omega)
          have hs2 := fun W => run_restS (P := Try.prog) W 29 9 1 Try.underlying29 hsize (some ⟨b, off, none⟩ : Option Addr) n c k (by omega) hcap
          obtain ⟨AD, hAD⟩ : ∃ AD : Option Addr, (if c = k then (some ⟨b, off, none⟩ : Option Addr) else (some ⟨b, off, none⟩ : Option Addr).map (·.add (k * 1))) = AD := ⟨_, rfl⟩
          rw [hAD] at hs2
          have hr4 : 0 < n - k → ∃ ad, AD = some ad ∧ ∀ W, Below w.heap.size w W → ∀ j u, ((l.drop k).flatMap strE.cells)[j]? = some u → W.cell? (ad.add j) = some u := fun h => by
            obtain ⟨bb, oo, hEE, _⟩ := hr.2 (by omega)
            have hrq' := hr
            rw [hEE] at hrq'
            refine ⟨⟨bb, oo + k * 1, none⟩, ?_, fun W hW j u hu => ?_⟩
            · rw [← hAD, if_neg (by omega), hEE]
              simp [addr_add]
            · obtain ⟨ad, e, h'⟩ := (((hrq'.below hW).drop k (by omega)).src (by omega))
              cases e
              exact h' j u hu
          have hADn : AD = none → n - k = 0 := fun h => by
            rcases Nat.eq_zero_or_pos (n - k) with h0 | h0
            · exact h0
            · obtain ⟨ad, e, _⟩ := hr4 h0
              rw [e] at h
              cases h
          have hdl : (l.drop k).length = n - k := by rw [List.length_drop, Hl.out]
          clear hAD
          go_wp2_with (first
            | (at_builtin; refine wpList_pushL strE rfl (.tmp 34) (.tmp 37) 29 rfl w.heap.size 9 i0 _ 16 Try.underlying29 hi hz0 hz1 hz2 rfl (.slice (some ⟨w.heap.size, 0, none⟩) 0 0) [] (l.take k) rfl hgl0 (some ⟨b, off, none⟩ : Option Addr) k c rfl hlen (Rd.noneLen hr3) (Rd.src hr3) k (by simp) (l.take k) (by simp) (by omega) (by decide) w hb2 hb2.size ?_; intro A1' c1' w3 hgl1 _ hb3 hs3)
            | (at_builtin; refine wpList_pushO strE rfl (.tmp 39) (.tmp 41) 29 rfl w.heap.size 9 i0 _ 16 Try.underlying29 hi hz0 hz1 hz2 rfl A1' k c1' (l.take k) x rfl (hgl1.alloc _) w3.heap.size rfl (range_new _ _ _) (by omega) (by decide) (by simp; omega) ?_; intro A2' c2' w4 hgl2 ht4 _
               have hb4 := Below.touch (hb3.alloc hs3 (.cells #[.string x] 9)) ht4 (fun k hk => (hgl1.lt k hk).1) (by simp; omega)
               have hs4 := hb4.size
               clear ht4)
            | (at_builtin; refine wpList_pushL strE rfl (.tmp 43) (.tmp 46) 29 rfl w.heap.size 9 i0 _ 16 Try.underlying29 hi hz0 hz1 hz2 rfl (.slice A2' (k + 1) c2') (l.take k ++ [x]) (l.drop k) rfl hgl2 AD (n - k) (c - k) rfl hdl hADn (fun h => by obtain ⟨ad, e, h'⟩ := hr4 h; exact ⟨ad, e, h' _ hb4⟩) (n + 1) (by first | (rw [List.length_append, List.length_singleton, hlen]; omega) | rw [List.length_append, List.length_singleton, hlen]) _ rfl (by omega) (by decide) w hb4 hs4 ?_; intro A3' c3' w5 hgl3 _ hb5 hs5))
          go_ret
          rw [HP.out]
          exact ⟨A3', n + 1, c3', rfl, hgl3.mono hbs, hb.trans (hb5.mono hbs), by omega⟩
        · have HP : Hid (putL l x = l) := Lib.hid (put_there HQ.out (by
            rw [eqS_iff] at h2
            rw [HY.out, of_decide_eq_true h2]))
          go_wp2
          go_ret
          rw [HP.out]
          exact ⟨_, n, c, rfl, hgl, hb, by omega⟩
      · have HN : Hid (∀ (j : Nat) z, j < k + 1 → l[j]? = some z → ltS z x = true) := Lib.hid (fun j z hj hz => by
          rcases Nat.lt_or_ge j k with h | h
          · exact HH.out j z h hz
          · obtain rfl : j = k := by omega
            rw [HY.out] at hz; cases hz
            exact h1)
        go_wp2
        first | (refine ⟨⟨k + 1, by omega, by go_num, HN⟩, ?_⟩; (simp [intOf]; omega)) | (go_round; (case rel => first | exact ⟨k + 1, by omega, by go_num, HN⟩ | ((try refine ⟨trivial, ?_⟩); (repeat apply Exists.intro); exact ⟨⟨k + 1, by omega, by go_num, HN⟩, rfl⟩)); (case measure => (simp [intOf]; omega)))
    · have hkn : n ≤ k := by omega
      have HQ : Hid (putK l x = k) := Lib.hid (putK_at HH.out (fun z hz => by rw [List.getElem?_eq_none (by have := Hl.out; omega)] at hz; cases hz) (by have := Hl.out; omega))
      have HP : Hid (putL l x = l.take k ++ [x] ++ l.drop k) := Lib.hid (put_new HQ.out (fun h => by rw [List.getElem?_eq_none (by have := Hl.out; omega)] at h; cases h))
      have hb2 : Below w.heap.size w (w.alloc (.cells #[] 9)) := (Below.refl _ _).alloc (Nat.le_refl _) _
      have hgl0 : GL strE 9 w.heap.size (w.alloc (.cells #[] 9)) (.slice (some ⟨w.heap.size, 0, none⟩) 0 0) [] := GL.mk0 (Nat.le_refl _)
      have hr3 := (hr.below hb2).take k (by omega)
      have hlen : (l.take k).length = k := by rw [List.length_take, Hl.out]; omega
      have hs1 := fun W => run_headS (P := Try.prog) W 29 9 1 Try.underlying29 hsize (A : Option Addr) n c k (by omega)
      have hs2 := fun W => run_restS (P := Try.prog) W 29 9 1 Try.underlying29 hsize (A : Option Addr) n c k (by omega) hcap
      obtain ⟨AD, hAD⟩ : ∃ AD : Option Addr, (if c = k then (A : Option Addr) else (A : Option Addr).map (·.add (k * 1))) = AD := ⟨_, rfl⟩
      rw [hAD] at hs2
      have hr4 : 0 < n - k → ∃ ad, AD = some ad ∧ ∀ W, Below w.heap.size w W → ∀ j u, ((l.drop k).flatMap strE.cells)[j]? = some u → W.cell? (ad.add j) = some u := fun h => by
        obtain ⟨bb, oo, hEE, _⟩ := hr.2 (by omega)
        have hrq' := hr
        rw [hEE] at hrq'
        refine ⟨⟨bb, oo + k * 1, none⟩, ?_, fun W hW j u hu => ?_⟩
        · rw [← hAD, if_neg (by omega), hEE]
          simp [addr_add]
        · obtain ⟨ad, e, h'⟩ := (((hrq'.below hW).drop k (by omega)).src (by omega))
          cases e
          exact h' j u hu
      have hADn : AD = none → n - k = 0 := fun h => by
        rcases Nat.eq_zero_or_pos (n - k) with h0 | h0
        · exact h0
        · obtain ⟨ad, e, _⟩ := hr4 h0
          rw [e] at h
          cases h
      have hdl : (l.drop k).length = n - k := by rw [List.length_drop, Hl.out]
      clear hAD
      have hd0 : n - k = 0 := by omega
      rw [hd0] at hr4 hADn hdl
      clear hd0
      go_wp2_with (first
        | (at_builtin; refine wpList_pushL strE rfl (.tmp 34) (.tmp 37) 29 rfl w.heap.size 9 i0 _ 16 Try.underlying29 hi hz0 hz1 hz2 rfl (.slice (some ⟨w.heap.size, 0, none⟩) 0 0) [] (l.take k) rfl hgl0 (A : Option Addr) k c rfl hlen (Rd.noneLen hr3) (Rd.src hr3) k (by simp) (l.take k) (by simp) (by omega) (by decide) w hb2 hb2.size ?_; intro A1' c1' w3 hgl1 _ hb3 hs3)
        | (at_builtin; refine wpList_pushO strE rfl (.tmp 39) (.tmp 41) 29 rfl w.heap.size 9 i0 _ 16 Try.underlying29 hi hz0 hz1 hz2 rfl A1' k c1' (l.take k) x rfl (hgl1.alloc _) w3.heap.size rfl (range_new _ _ _) (by omega) (by decide) (by simp; omega) ?_; intro A2' c2' w4 hgl2 ht4 _
           have hb4 := Below.touch (hb3.alloc hs3 (.cells #[.string x] 9)) ht4 (fun k hk => (hgl1.lt k hk).1) (by simp; omega)
           have hs4 := hb4.size
           clear ht4)
        | (at_builtin; refine wpList_pushL strE rfl (.tmp 43) (.tmp 46) 29 rfl w.heap.size 9 i0 _ 16 Try.underlying29 hi hz0 hz1 hz2 rfl (.slice A2' (k + 1) c2') (l.take k ++ [x]) (l.drop k) rfl hgl2 AD 0 (c - k) rfl hdl hADn (fun h => by obtain ⟨ad, e, h'⟩ := hr4 h; exact ⟨ad, e, h' _ hb4⟩) (n + 1) (by first | (rw [List.length_append, List.length_singleton, hlen]; omega) | rw [List.length_append, List.length_singleton, hlen]) _ rfl (by omega) (by decide) w hb4 hs4 ?_; intro A3' c3' w5 hgl3 _ hb5 hs5))
      go_ret
      rw [HP.out]
      exact ⟨A3', n + 1, c3', rfl, hgl3.mono hbs, hb.trans (hb5.mono hbs), by omega⟩

end Go.Proofs.Ytepegiklnhoobaa

/- The program's words of a line; the text of a list of numbers. -/
import Derived.Test.YtbdjhecbingcjaaGreatDoorRows
import Derived.Test.YtbdjhecbingcjaaGreatDoorIList
import Derived.Test.YtbdjhecbingcjaaGreatDoorListTx
namespace Go.Proofs.YtbdjhecbingcjaaGreatDoor
set_option linter.unusedVariables false
set_option linter.unusedSimpArgs false
set_option linter.unusedSectionVars false
open Go.RowKit

def wordsB (s : ByteArray) : List ByteArray := (cutsB 32 s).filter fun p => !p.data.toList.isEmpty
theorem words_in {l : List ByteArray} {k : Nat} {p : ByteArray} (hp : l[k]? = some p) (h : p.data.toList.isEmpty = false) : (l.take (k + 1)).filter (fun p => !p.data.toList.isEmpty) = (l.take k).filter (fun p => !p.data.toList.isEmpty) ++ [p] := by
  rw [take_of_get hp, List.filter_append, List.filter_cons, if_pos (by rw [h]; rfl)]
  rfl
theorem words_out {l : List ByteArray} {k : Nat} {p : ByteArray} (hp : l[k]? = some p) (h : p.data.toList.isEmpty = true) : (l.take (k + 1)).filter (fun p => !p.data.toList.isEmpty) = (l.take k).filter (fun p => !p.data.toList.isEmpty) := by
  rw [take_of_get hp, List.filter_append, List.filter_cons, if_neg (by rw [h]; simp)]
  simp
theorem empty_eq (p : ByteArray) : p.toList.isEmpty = p.data.toList.isEmpty := by rw [ByteArray.toList_eq]

set_option maxHeartbeats 2000000 in
theorem i_SplitWords (s : ByteArray) (w : World) (hs : s.size ≤ 1048576) (hL : LibW w) :
    Calls Tryz.prog 33 #[.string s] w (RetL strE 9 (wordsB s) w) := by
  have hb1 : Below w.heap.size w (w.alloc (.cells #[] 9)) := by (repeat (first | exact Below.refl _ _ | assumption | refine Below.drew ?_ | refine Below.alloc ?_ (by first | omega | (simp; done) | (simp; omega) | exact Below.size (by assumption)) _ | refine Below.setCell ?_ (by first | omega | (simp; done) | (simp; omega)) _))
  have hgo : GL strE 9 w.heap.size (w.alloc (.cells #[] 9)) (.slice (some ⟨w.heap.size, 0, none⟩) 0 0) [] := GL.mk0 (Nat.le_refl _)
  obtain ⟨W1, hW1⟩ : ∃ W1, w.alloc (.cells #[] 9) = W1 := ⟨_, rfl⟩
  have hsW : w.heap.size < W1.heap.size := by rw [← hW1]; simp
  rw [hW1] at hb1 hgo
  go_enter Tryz.func33, Tryz.ntmps33
  go_wp2_with fail
  try rw [hW1]
  clear hW1
  refine (i_Split s 32 _ hs (hL.below hb1)).mono ?_
  rintro e w1 ⟨A, n, c, hl, hn, rfl, hgl, hb⟩
  have HLL := Lib.hid hl
  have hb2 : Below w.heap.size w w1 := hb1.trans (hb.mono hb1.size)
  have hz1 := hb1.size
  have hz2 := hb.size
  have hgo1 := hgo.below hb
  obtain ⟨F, hFd⟩ : ∃ F : Nat → Prop, ∀ k, F k ↔ (k = w.heap.size ∨ w1.heap.size ≤ k) := ⟨_, fun _ => Iff.rfl⟩
  have hFlo : ∀ k, F k → w.heap.size ≤ k := fun k hk => by have := (hFd k).1 hk; omega
  have hol : OL strE 9 F w1 (some ⟨w.heap.size, 0, none⟩) 0 0 [] := ⟨(hgo1.mono (Nat.zero_le _)).own.2, rfl, fun k hk => (hFd k).2 (.inl (by cases hk; rfl))⟩
  have hrd1 := hgl.rd
  have hnF : ∀ b off, A = some ⟨b, off, none⟩ → ¬ F b := fun b off e hF => by
    obtain ⟨h1, h2⟩ := hgl.own.2.lt b (by rw [e]; rfl)
    have := (hFd b).1 hF
    omega
  have HFD := Lib.hid hFd; clear hFd
  clear hl hgl hgo hgo1 hb1
  go_wp2_with fail
  go_loopw [3, 10] (fun v i wr => ∃ (k : Nat) (r : List ByteArray) (A' : Option Addr) (c' : Nat), k ≤ n ∧ i = .int .i64 k ∧ v = .slice A' r.length c' ∧ OL strE 9 F wr A' r.length c' r ∧ Hid (r.length ≤ k) ∧ Touch F w1 wr ∧ Hid (r = ((cutsB 32 s).take k).filter fun p => !p.data.toList.isEmpty)) (fun _ i _ => n - (intOf i).toNat)
  case atStart => exact ⟨0, [], _, _, Nat.zero_le _, rfl, rfl, hol, Lib.hid (Nat.le_refl _), Touch.refl _ _, Lib.hid rfl⟩
  case round =>
    obtain ⟨k, r, A', c', hk, rfl, rfl, hor, hrk, ht', HH⟩ := hrel
    have hts := ht'.size
    have hbr : Below w.heap.size w wr := Below.touch hb2 ht' hFlo (by omega)
    by_cases hlt : k < n
    · obtain ⟨b, off, p, hAe, hp, hcs⟩ := hrd1.get hlt
      subst hAe
      have hc0 := range_touch hcs ht' (hnF _ _ rfl) 0 (.string p) rfl
      simp only [strE, Nat.mul_one, Nat.add_zero] at hc0
      have HP := Lib.hid hp
      clear hcs hp
      rcases he : p.toList.isEmpty with _ | _
      · have HK : Hid (r ++ [p] = ((cutsB 32 s).take (k + 1)).filter fun p => !p.data.toList.isEmpty) := Lib.hid (by rw [words_in HP.out (by rw [← empty_eq]; exact he), HH.out])
        obtain ⟨i0, HI⟩ := info_hid Tryz.info_str
        go_wp2_with (at_builtin; refine wpList_pushT strE rfl _ _ 57 rfl 9 i0 _ 16 Tryz.underlying57 HI.out.1 HI.out.2.1 HI.out.2.2.1 HI.out.2.2.2 rfl F A' r.length c' r p rfl (hor.alloc _) wr.heap.size rfl (range_new _ _ _) ((HFD.out _).2 (.inr (by simp; omega))) (by have := hrk.out; omega) (by decide) ?_; intro A2 c2 w3 hor3 ht3)
        have ht4 := ht'.trans ((Touch.alloc _ _).trans ht3)
        first | (refine ⟨⟨k + 1, r ++ [p], A2, c2, by omega, by go_num, by simp, by simpa using hor3, Lib.hid (by have := hrk.out; simp; omega), ht4, HK⟩, ?_⟩; (simp [intOf]; omega)) | (go_roundw; (case rel => first | exact ⟨k + 1, r ++ [p], A2, c2, by omega, by go_num, by simp, by simpa using hor3, Lib.hid (by have := hrk.out; simp; omega), ht4, HK⟩ | ((try refine ⟨trivial, ?_⟩); (repeat apply Exists.intro); exact ⟨⟨k + 1, r ++ [p], A2, c2, by omega, by go_num, by simp, by simpa using hor3, Lib.hid (by have := hrk.out; simp; omega), ht4, HK⟩, rfl⟩)); (case measure => (simp [intOf]; omega)))
      · have HK : Hid (r = ((cutsB 32 s).take (k + 1)).filter fun p => !p.data.toList.isEmpty) := Lib.hid (by rw [words_out HP.out (by rw [← empty_eq]; exact he), HH.out])
        go_wp2
        first | (refine ⟨⟨k + 1, r, A', c', by omega, by go_num, rfl, hor, Lib.hid (by have := hrk.out; omega), ht', HK⟩, ?_⟩; (simp [intOf]; omega)) | (go_roundw; (case rel => first | exact ⟨k + 1, r, A', c', by omega, by go_num, rfl, hor, Lib.hid (by have := hrk.out; omega), ht', HK⟩ | ((try refine ⟨trivial, ?_⟩); (repeat apply Exists.intro); exact ⟨⟨k + 1, r, A', c', by omega, by go_num, rfl, hor, Lib.hid (by have := hrk.out; omega), ht', HK⟩, rfl⟩)); (case measure => (simp [intOf]; omega)))
    · have E : Hid (wordsB s = r) := Lib.hid (by
        unfold wordsB
        rw [HH.out, List.take_of_length_le (by rw [HLL.out]; omega)])
      go_wp2
      go_ret
      exact RetL.mk (hor.toGL hFlo) (by have := hrk.out; omega) E.out hbr

theorem join_eq (l : List (List UInt8)) : Lib.join l [44] = joinC 44 l := by
  induction l with
  | nil => rfl
  | cons p r ih =>
    cases r with
    | nil => simp [Lib.join, joinC, List.intercalate]
    | cons q t => rw [joinC, ← ih]; simp [Lib.join, List.intercalate, List.intersperse]
theorem itoa_small {n : Int} (h : -1000000000000 ≤ n ∧ n ≤ 1000000000000) : (Lib.itoa n).length ≤ 19 := by
  have h1 := (itoa_of_num (num_itoa h)).1
  rw [trim45] at h1
  cases hi : Lib.itoa n with
  | nil => simp
  | cons c r =>
    rw [hi] at h1
    simp only at h1
    split at h1
    · simp; omega
    · simp at h1 ⊢; omega
theorem joinC_len (c : UInt8) {N : Nat} : ∀ {l : List (List UInt8)}, (∀ p ∈ l, p.length ≤ N) → (joinC c l).length ≤ (N + 1) * l.length
  | [], _ => by simp [joinC]
  | [p], h => by have := h p (List.mem_cons_self ..); simp [joinC]; omega
  | p :: q :: r, h => by
    have h1 := h p (List.mem_cons_self ..)
    have h2 := joinC_len c (l := q :: r) (fun x hx => h x (List.mem_cons_of_mem _ hx))
    rw [joinC]
    simp only [List.length_append, List.length_cons] at h2 ⊢
    rw [Nat.mul_add, Nat.mul_one]
    omega
theorem textL_len {ns : List Int} (h : ∀ n ∈ ns, -1000000000000 ≤ n ∧ n ≤ 1000000000000) (hl : ns.length ≤ 64) : (textL ns).length ≤ 1280 := by
  unfold textL
  split
  · simp
  · have := joinC_len 44 (N := 19) (l := ns.map Lib.itoa) (fun p hp => by obtain ⟨n, hn, rfl⟩ := List.mem_map.1 hp; exact itoa_small (h n hn))
    simp only [List.length_map] at this
    omega
set_option maxHeartbeats 2000000 in
theorem i_ListText (A : Option Addr) (n c : Nat) (ns : List Int) (w : World) (hr : Rd intE w A n ns) (hl : n ≤ 64) (hg : ∀ x ∈ ns, -1000000000000 ≤ x ∧ x ≤ 1000000000000) (hL : LibW w) :
    Calls Tryz.prog 36 #[.slice A n c] w fun e w' => e = .returned (.string (ofL (textL ns))) ∧ Below w.heap.size w w' := by
  have Hl := Lib.hid hr.1
  have HG := Lib.hid hg; clear hg
  go_enter Tryz.func36, Tryz.ntmps36
  go_wp2_with fail
  refine (i_few _ _ _ (by omega) (by omega)).mono ?_
  rintro e w1 ⟨rfl, rfl⟩
  rw [decide_eq_true (show (n : Int) ≤ 64 by omega)]
  by_cases h0 : n = 0
  · subst h0
    have E : Hid (textL ns = [45]) := Lib.hid (by rw [List.eq_nil_of_length_eq_zero Hl.out]; rfl)
    go_wp2
    go_ret
    exact ⟨by rw [E.out]; rfl, Below.refl _ _⟩
  have hne : ((n : Int) == 0) = false := by rw [beq_eq_false_iff_ne]; omega
  have HNE : Hid (textL ns = joinC 44 (ns.map Lib.itoa)) := Lib.hid (by unfold textL; rw [if_neg (fun e => h0 (by rw [← Hl.out, e]; rfl))])
  have hb0 : Below w.heap.size w (w.alloc (.cells #[] 9)) := by (repeat (first | exact Below.refl _ _ | assumption | refine Below.drew ?_ | refine Below.alloc ?_ (by first | omega | (simp; done) | (simp; omega) | exact Below.size (by assumption)) _ | refine Below.setCell ?_ (by first | omega | (simp; done) | (simp; omega)) _))
  have hgl0 : GL strE 9 w.heap.size (w.alloc (.cells #[] 9)) (.slice (some ⟨w.heap.size, 0, none⟩) 0 0) [] := GL.mk0 (Nat.le_refl _)
  go_wp2_with fail
  go_loopw [3, 16] (fun v i wr => ∃ (k : Nat) (r : List ByteArray) (A' : Option Addr) (c' : Nat), k ≤ n ∧ i = .int .i64 k ∧ v = .slice A' r.length c' ∧ GL strE 9 w.heap.size wr (.slice A' r.length c') r ∧ Hid (r.length = k) ∧ Below w.heap.size w wr ∧ Hid (r = (ns.take k).map fun x => ofL (Lib.itoa x))) (fun _ i _ => n - (intOf i).toNat)
  case atStart => exact ⟨0, [], _, _, Nat.zero_le _, rfl, rfl, hgl0, Lib.hid rfl, hb0, Lib.hid rfl⟩
  case round =>
    obtain ⟨k, r, A', c', hk, rfl, rfl, hgr, hrk, hbr, HH⟩ := hrel
    have hbs := hbr.size
    by_cases hlt : k < n
    · obtain ⟨b, off, x, hAe, hx, hcs⟩ := (hr.below hbr).get hlt
      subst hAe
      have hc0 := hcs 0 (.int .i64 x) rfl
      simp only [intE, Nat.mul_one, Nat.add_zero] at hc0
      have hxr := HG.out x (mem_of_get hx)
      have HX := Lib.hid (take_of_get hx)
      clear hcs hx
      go_wp2_with fail
      refine (i_within _ _ _ _).mono ?_
      rintro e w2 ⟨rfl, rfl⟩
      rw [inB_true hxr.1 hxr.2]
      go_wp2_with fail
      refine (i_Decimal x _ (by omega) (hL.below hbr)).mono ?_
      rintro e w3 ⟨rfl, hb3⟩
      have hgr3 := hgr.below hb3
      have hbr3 := hbr.trans (hb3.mono hbr.size)
      have hz3 := hbr3.size
      have HK : Hid (r ++ [ofL (Lib.itoa x)] = (ns.take (k + 1)).map fun x => ofL (Lib.itoa x)) := Lib.hid (by rw [HX.out, List.map_append, HH.out]; rfl)
      obtain ⟨i0, HI⟩ := info_hid Tryz.info_str
      clear hb3 hgr hbr hbs
      go_wp2_with (at_builtin; refine wpList_push strE rfl _ _ 57 rfl w.heap.size 9 i0 _ 16 Tryz.underlying57 HI.out.1 HI.out.2.1 HI.out.2.2.1 HI.out.2.2.2 rfl (.slice A' r.length c') r (ofL (Lib.itoa x)) rfl (hgr3.alloc _) w3.heap.size rfl (range_new _ _ _) (by have := hrk.out; omega) (by decide) w (by (repeat (first | exact Below.refl _ _ | assumption | refine Below.drew ?_ | refine Below.alloc ?_ (by first | omega | (simp; done) | (simp; omega) | exact Below.size (by assumption)) _ | refine Below.setCell ?_ (by first | omega | (simp; done) | (simp; omega)) _))) (by simp; omega) ?_; intro A2 c2 w4 hgl4 hb4 _)
      first | (refine ⟨⟨k + 1, r ++ [ofL (Lib.itoa x)], A2, c2, by omega, by go_num, by simp, by simpa using hgl4, Lib.hid (by have := hrk.out; simp; omega), hb4, HK⟩, ?_⟩; (simp [intOf]; omega)) | (go_roundw; (case rel => first | exact ⟨k + 1, r ++ [ofL (Lib.itoa x)], A2, c2, by omega, by go_num, by simp, by simpa using hgl4, Lib.hid (by have := hrk.out; simp; omega), hb4, HK⟩ | ((try refine ⟨trivial, ?_⟩); (repeat apply Exists.intro); exact ⟨⟨k + 1, r ++ [ofL (Lib.itoa x)], A2, c2, by omega, by go_num, by simp, by simpa using hgl4, Lib.hid (by have := hrk.out; simp; omega), hb4, HK⟩, rfl⟩)); (case measure => (simp [intOf]; omega)))
    · have HE : Hid (r.map (·.data.toList) = ns.map Lib.itoa) := Lib.hid (by
        rw [HH.out, List.take_of_length_le (by have := Hl.out; omega), List.map_map]
        exact List.map_congr_left fun x _ => ofL_data _)
      have hrl : 0 < r.length := by have := hrk.out; omega
      obtain ⟨g, cap, hv, hg1, hg2⟩ : ∃ g cap, A' = some ⟨g, 0, none⟩ ∧ w.heap.size ≤ g ∧ g < wr.heap.size := by
        obtain ⟨g, cap, hv, _, _⟩ := hgr.own.2.form hrl
        injection hv with hA
        subst hA
        obtain ⟨h1, h2⟩ := hgr.own.2.lt g rfl
        exact ⟨g, cap, rfl, h1, h2⟩
      subst hv
      have hcc : r.length ≤ c' := hgr.cap.1
      have hJ : ∀ (j : Nat) x, r[j]? = some x → wr.cell? ⟨g, 0 + j, none⟩ = some (.string x) := fun j x hj => by
        have h3 := hgr.own.2.cells (g := g) rfl (j * 1) _ (flat_get strE r j x hj 0 (.string x) rfl)
        rw [addr_add] at h3
        simpa using h3
      have HJ := Lib.hid hJ; clear hJ
      have HLEN : Hid ((Lib.join (r.map (·.data.toList)) (⟨#[44]⟩ : ByteArray).data.toList).length ≤ 140737488355328) := Lib.hid (by
        show (Lib.join (r.map (·.data.toList)) [44]).length ≤ _
        rw [HE.out, join_eq, ← HNE.out]
        have := textL_len HG.out (by rw [Hl.out]; exact hl)
        omega)
      go_wp2_with fail
      refine (Tryz.strings_Join g 0 c' r ⟨#[44]⟩ _ HJ.out hg2 (by have := hrk.out; omega) hcc HLEN.out).mono ?_
      rintro e w5 ⟨he, hb5⟩
      have he2 : e = .returned (.string (ofL (textL ns))) := by
        rw [he]
        show Ending.returned (.string ⟨(Lib.join (r.map (·.data.toList)) [44]).toArray⟩) = _
        rw [HE.out, join_eq, ← HNE.out]
        rfl
      subst he2
      have hbF := hbr.trans (hb5.mono hbr.size)
      clear he hb5
      go_wp2
      go_ret
      exact ⟨rfl, hbF⟩

theorem i_named (nm : ByteArray) (A : Option Addr) (n c : Nat) (ns : List Int) (w : World) (hnm : nm.size ≤ 1048576) (hr : Rd intE w A n ns) (hl : n ≤ 64) (hg : ∀ x ∈ ns, -1000000000000 ≤ x ∧ x ≤ 1000000000000) (hL : LibW w) :
    Calls Tryz.prog 35 #[.string nm, .slice A n c] w fun e w' => e = .returned (.string (nm ++ ⟨#[32]⟩ ++ ofL (textL ns))) ∧ Below w.heap.size w w' := by
  have hz : (ofL (textL ns)).size ≤ 1280 := by rw [ofL_size]; exact textL_len hg (by rw [hr.1]; exact hl)
  have HT := Lib.hid hz
  obtain ⟨T, hT⟩ : ∃ T, ofL (textL ns) = T := ⟨_, rfl⟩
  rw [hT] at hz
  have q1 := fun W => run_string_add_sum (P := Tryz.prog) W nm ⟨#[32]⟩ (by show _ + 1 ≤ _; omega)
  have q2 := fun W => run_string_add_sum (P := Tryz.prog) W (nm ++ ⟨#[32]⟩) T (by rw [ba_app_size]; show _ + 1 + _ ≤ _; omega)
  go_enter Tryz.func35, Tryz.ntmps35
  go_wp2_with fail
  refine (i_ListText A n c ns _ hr hl hg hL).mono ?_
  rw [hT]
  rintro e w1 ⟨rfl, hb⟩
  go_wp2
  go_ret
  exact ⟨by rw [hT]; rfl, hb⟩

end Go.Proofs.YtbdjhecbingcjaaGreatDoor

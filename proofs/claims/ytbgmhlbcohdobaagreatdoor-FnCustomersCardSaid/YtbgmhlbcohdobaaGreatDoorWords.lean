/- The program's words of a line; the text of a list of numbers. -/
import Derived.Test.YtbgmhlbcohdobaaGreatDoorRows
import Derived.Test.YtbgmhlbcohdobaaGreatDoorIList
import Derived.Test.YtbgmhlbcohdobaaGreatDoorListTx
namespace Go.Proofs.YtbgmhlbcohdobaaGreatDoor
set_option linter.unusedVariables false
set_option linter.unusedSimpArgs false
set_option linter.unusedSectionVars false
open Go.RowKit

def wordsB (s : ByteArray) : List ByteArray := (cutsB 32 s).filter fun p => !p.data.toList.isEmpty
theorem words_in {l : List ByteArray} {k : Nat} {p : ByteArray} (hp : l[k]? = some p) (h : p.data.toList.isEmpty = false) : (l.take (k + 1)).filter (fun p => !p.data.toList.isEmpty) = (l.take k).filter (fun p => !p.data.toList.isEmpty) ++ [p] := by
  rw [take_of_get hp, List.filter_append, List.filter_cons, if_pos (by rw [h]; rfl)]
  rfl
theorem words_out {l : List ByteArray} {k : Nat} {p : ByteArray} (hp : l[k]? = some p) (h : p.data.toList.isEmpty = true) : (l.take (k + 1)).filter (fun p => !p.data.toList.isEmpty) = (l.take k).filter (fun p => !p.data.toList.isEmpty) := by
  rw [take_of_get hp, List.filter_append, List.filter_cons, if_neg (by rw [h]; simp)]
  simp
theorem empty_eq (p : ByteArray) : p.toList.isEmpty = p.data.toList.isEmpty := by rw [ByteArray.toList_eq]

set_option maxHeartbeats 2000000 in
theorem i_SplitWords (s : ByteArray) (w : World) (hs : s.size ≤ 1048576) (hL : LibW w) :
    Calls Tryz.prog 27 #[.string s] w (RetL strE 9 (wordsB s) w) := by
  have hb1 : Below w.heap.size w (w.alloc (.cells #[] 9)) := by (repeat (first | exact Below.refl _ _ | assumption | refine Below.drew ?_ | refine Below.alloc ?_ (by first | omega | (simp; done) | (simp; omega) | exact Below.size (by assumption)) _ | refine Below.setCell ?_ (by first | omega | (simp; done) | (simp; omega)) _))
  have hgo : GL strE 9 w.heap.size (w.alloc (.cells #[] 9)) (.slice (some ⟨w.heap.size, 0, none⟩) 0 0) [] := GL.mk0 (Nat.le_refl _)
  obtain ⟨W1, hW1⟩ : ∃ W1, w.alloc (.cells #[] 9) = W1 := ⟨_, rfl⟩
  have hsW : w.heap.size < W1.heap.size := by rw [← hW1]; simp
  rw [hW1] at hb1 hgo
  go_enter Tryz.func27, Tryz.ntmps27
  go_wp2_with fail
  try rw [hW1]
  clear hW1
  refine (i_Split s 32 _ hs (hL.below hb1)).mono ?_
  rintro e w1 ⟨A, n, c, hl, hn, rfl, hgl, hb⟩
  have HLL := Lib.hid hl
  have hb2 : Below w.heap.size w w1 := hb1.trans (hb.mono hb1.size)
  have hz1 := hb1.size
  have hz2 := hb.size
  have hgo1 := hgo.below hb
  obtain ⟨F, hFd⟩ : ∃ F : Nat → Prop, ∀ k, F k ↔ (k = w.heap.size ∨ w1.heap.size ≤ k) := ⟨_, fun _ => Iff.rfl⟩
  have hFlo : ∀ k, F k → w.heap.size ≤ k := fun k hk => by have := (hFd k).1 hk; omega
  have hol : OL strE 9 F w1 (some ⟨w.heap.size, 0, none⟩) 0 0 [] := ⟨(hgo1.mono (Nat.zero_le _)).own.2, rfl, fun k hk => (hFd k).2 (.inl (by cases hk; rfl))⟩
  have hrd1 := hgl.rd
  have hnF : ∀ b off, A = some ⟨b, off, none⟩ → ¬ F b := fun b off e hF => by
    obtain ⟨h1, h2⟩ := hgl.own.2.lt b (by rw [e]; rfl)
    have := (hFd b).1 hF
    omega
  have HFD := Lib.hid hFd; clear hFd
  clear hl hgl hgo hgo1 hb1
  go_wp2_with fail
  go_loopw [3, 10] (fun v i wr => ∃ (k : Nat) (r : List ByteArray) (A' : Option Addr) (c' : Nat), k ≤ n ∧ i = .int .i64 k ∧ v = .slice A' r.length c' ∧ OL strE 9 F wr A' r.length c' r ∧ Hid (r.length ≤ k) ∧ Touch F w1 wr ∧ Hid (r = ((cutsB 32 s).take k).filter fun p => !p.data.toList.isEmpty)) (fun _ i _ => n - (intOf i).toNat)
  case atStart => exact ⟨0, [], _, _, Nat.zero_le _, rfl, rfl, hol, Lib.hid (Nat.le_refl _), Touch.refl _ _, Lib.hid rfl⟩
  case round =>
    obtain ⟨k, r, A', c', hk, rfl, rfl, hor, hrk, ht', HH⟩ := hrel
    have hts := ht'.size
    have hbr : Below w.heap.size w wr := Below.touch hb2 ht' hFlo (by omega)
    by_cases hlt : k < n
    · obtain ⟨b, off, p, hAe, hp, hcs⟩ := hrd1.get hlt
      subst hAe
      have hc0 := range_touch hcs ht' (hnF _ _ rfl) 0 (.string p) rfl
      simp only [strE, Nat.mul_one, Nat.add_zero] at hc0
      have HP := Lib.hid hp
      clear hcs hp
      rcases he : p.toList.isEmpty with _ | _
      · have HK : Hid (r ++ [p] = ((cutsB 32 s).take (k + 1)).filter fun p => !p.data.toList.isEmpty) := Lib.hid (by rw [words_in HP.out (by rw [← empty_eq]; exact he), HH.out])
        obtain ⟨i0, HI⟩ := info_hid Tryz.info_str
        go_wp2_with (at_builtin; refine wpList_pushT strE rfl _ _ 26 rfl 9 i0 _ 16 Tryz.underlying26 HI.out.1 HI.out.2.1 HI.out.2.2.1 HI.out.2.2.2 rfl F A' r.length c' r p rfl (hor.alloc _) wr.heap.size rfl (range_new _ _ _) ((HFD.out _).2 (.inr (by simp; omega))) (by have := hrk.out; omega) (by decide) ?_; intro A2 c2 w3 hor3 ht3)
        have ht4 := ht'.trans ((Touch.alloc _ _).trans ht3)
        first | (refine ⟨⟨k + 1, r ++ [p], A2, c2, by omega, by go_num, by simp, by simpa using hor3, Lib.hid (by have := hrk.out; simp; omega), ht4, HK⟩, ?_⟩; (simp [intOf]; omega)) | (go_roundw; (case rel => first | exact ⟨k + 1, r ++ [p], A2, c2, by omega, by go_num, by simp, by simpa using hor3, Lib.hid (by have := hrk.out; simp; omega), ht4, HK⟩ | ((try refine ⟨trivial, ?_⟩); (repeat apply Exists.intro); exact ⟨⟨k + 1, r ++ [p], A2, c2, by omega, by go_num, by simp, by simpa using hor3, Lib.hid (by have := hrk.out; simp; omega), ht4, HK⟩, rfl⟩)); (case measure => (simp [intOf]; omega)))
      · have HK : Hid (r = ((cutsB 32 s).take (k + 1)).filter fun p => !p.data.toList.isEmpty) := Lib.hid (by rw [words_out HP.out (by rw [← empty_eq]; exact he), HH.out])
        go_wp2
        first | (refine ⟨⟨k + 1, r, A', c', by omega, by go_num, rfl, hor, Lib.hid (by have := hrk.out; omega), ht', HK⟩, ?_⟩; (simp [intOf]; omega)) | (go_roundw; (case rel => first | exact ⟨k + 1, r, A', c', by omega, by go_num, rfl, hor, Lib.hid (by have := hrk.out; omega), ht', HK⟩ | ((try refine ⟨trivial, ?_⟩); (repeat apply Exists.intro); exact ⟨⟨k + 1, r, A', c', by omega, by go_num, rfl, hor, Lib.hid (by have := hrk.out; omega), ht', HK⟩, rfl⟩)); (case measure => (simp [intOf]; omega)))
    · have E : Hid (wordsB s = r) := Lib.hid (by
        unfold wordsB
        rw [HH.out, List.take_of_length_le (by rw [HLL.out]; omega)])
      go_wp2
      go_ret
      exact RetL.mk (hor.toGL hFlo) (by have := hrk.out; omega) E.out hbr

end Go.Proofs.YtbgmhlbcohdobaaGreatDoor

/- Lists of lists of texts: how they lie, what the call owns; the law files' helpers on them. -/
import Derived.Test.YtlnhjjcficoldaaRows
import Derived.Test.YtlnhjjcficoldaaMem
import Derived.Test.YtlnhjjcficoldaaMarks
import Derived.Test.YtlnhjjcficoldaaGrow
import Derived.Test.YtlnhjjcficoldaaArr
import Derived.Test.YtlnhjjcficoldaaTouch
import Derived.Test.YtlnhjjcficoldaaTwo
import Derived.Test.YtlnhjjcficoldaaPageLaw
import Derived.StillTailTactics
namespace Go.Proofs.Ytlnhjjcficoldaa
set_option linter.unusedVariables false
set_option linter.unusedSimpArgs false
set_option linter.unusedSectionVars false
open Go.RowKit

/-- a slice value, as it lies in a cell -/
structure Sl where
  A : Option Addr
  n : Nat
  c : Nat
def slE : Enc Sl := ⟨1, fun x => [.slice x.A x.n x.c], fun _ => rfl, by decide, fun _ u h => by simp at h; subst h; rfl⟩
abbrev Sl.v (p : Sl) : Value := .slice p.A p.n p.c
/-- each page reads -/
def PgR (w : World) (ps : List Sl) (L : List (List ByteArray)) : Prop := ps.length = L.length ∧ ∀ (k : Nat) (p : Sl) (l : List ByteArray), ps[k]? = some p → L[k]? = some l → Rd strE w p.A p.n l
/-- each page is a row of its own; they lie apart from one another and from the row that holds them -/
structure PgW (base : Nat) (w : World) (out : Value) (ps : List Sl) (L : List (List ByteArray)) : Prop where
  len : ps.length = L.length
  row : ∀ (k : Nat) (p : Sl) (l : List ByteArray), ps[k]? = some p → L[k]? = some l → GL strE 9 base w (.slice p.A p.n p.c) l
  out : ∀ (k : Nat) (p : Sl), ps[k]? = some p → Apart (.slice p.A p.n p.c) out
  two : ∀ (j k : Nat) (p q : Sl), j ≠ k → ps[j]? = some p → ps[k]? = some q → Apart (.slice p.A p.n p.c) (.slice q.A q.n q.c)
theorem PgW.rd {base : Nat} {w : World} {out : Value} {ps : List Sl} {L : List (List ByteArray)} (h : PgW base w out ps L) : PgR w ps L := ⟨h.len, fun k p l hp hl => (h.row k p l hp hl).rd⟩
theorem PgR.below {w w' : World} {ps : List Sl} {L : List (List ByteArray)} (h : PgR w ps L) (hb : Below w.heap.size w w') : PgR w' ps L := ⟨h.1, fun k p l hp hl => (h.2 k p l hp hl).below hb⟩
theorem PgW.below {base : Nat} {w w' : World} {out : Value} {ps : List Sl} {L : List (List ByteArray)} (h : PgW base w out ps L) (hb : Below w.heap.size w w') : PgW base w' out ps L :=
  ⟨h.len, fun k p l hp hl => (h.row k p l hp hl).below hb, h.out, h.two⟩
/-- what the row that holds them turns leaves the pages -/
theorem PgW.touch {F : Nat → Prop} {base : Nat} {w w' : World} {out : Value} {ps : List Sl} {L : List (List ByteArray)} (h : PgW base w out ps L) (ht : Touch F w w') (hF : ∀ (k : Nat) (p : Sl), ps[k]? = some p → ∀ j, Value.ownBlock (.slice p.A p.n p.c) = some j → ¬ F j) : PgW base w' out ps L :=
  ⟨h.len, fun k p l hp hl => (h.row k p l hp hl).touch ht (hF k p hp), h.out, h.two⟩
theorem get_lt {α : Type} {l : List α} {k : Nat} {x : α} (h : l[k]? = some x) : k < l.length := (List.getElem?_eq_some_iff.1 h).1
theorem get_ex {α : Type} {l : List α} {k : Nat} (h : k < l.length) : ∃ x, l[k]? = some x := ⟨_, List.getElem?_eq_getElem h⟩

set_option maxHeartbeats 1000000 in
theorem l_eqStringSS (A A' : Option Addr) (n c c' : Nat) (ps ps' : List Sl) (L : List (List ByteArray)) (w : World) (hr : Rd slE w A n ps) (hr' : Rd slE w A' n ps') (hp : PgR w ps L) (hp' : PgR w ps' L) (hn : n ≤ 1048576) (hL : ∀ l ∈ L, l.length ≤ 1048576) :
    Calls Try.prog 8 #[.slice A n c, .slice A' n c'] w (RetB true w) := by
  have Hl := Lib.hid hr.1
  have Hl' := Lib.hid hr'.1
  have HP := Lib.hid hp
  have HP' := Lib.hid hp'
  have HL := Lib.hid hL
  clear hp hp' hL
  go_enter Try.func8, Try.ntmps8
  go_wp2_with fail
  go_loopw [5] (fun i wr => ∃ k : Nat, k ≤ n ∧ i = .int .i64 k ∧ Below w.heap.size w wr) (fun i _ => n - (intOf i).toNat)
  case atStart => exact ⟨0, Nat.zero_le _, rfl, Below.refl _ _⟩
  case round =>
    obtain ⟨k, hk, rfl, hb⟩ := hrel
    by_cases hlt : k < n
    · obtain ⟨b, off, p, rfl, hx, hc⟩ := hr.get hlt
      obtain ⟨b', off', p', rfl, hx', hc'⟩ := hr'.get hlt
      obtain ⟨l, hl⟩ : ∃ l, L[k]? = some l := get_ex (by rw [← HP.out.1, Hl.out]; exact hlt)
      have h1 := HP.out.2 k p l hx hl
      have h2 := HP'.out.2 k p' l hx' hl
      have hm : p'.n = p.n := h2.1.symm.trans h1.1
      have hpn : p.n ≤ 1048576 := by rw [← h1.1]; exact HL.out l (mem_of_get hl)
      have hc0 := range_below (B := 0) hc hb 0 _ rfl
      have hd0 := range_below (B := 0) hc' hb 0 _ rfl
      simp only [slE, Nat.mul_one, Nat.add_zero] at hc0 hd0
      rw [hm] at hd0 h2
      have hq := l_eqStringS p.A p'.A p.n p.c p'.c l wr.drew (h1.below (hb.drew)) (h2.below hb.drew) (by unfold maxLen; omega)
      clear hc hc' hx hx' h1 h2 hm
      go_wp2_with fail
      go_still_tail 8, (by kernel_rfl)
      change wpList _ _ _ _ _ wr.drew
      go_wp2_with fail
      refine hq.mono ?_
      rintro e w1 ⟨rfl, hb1⟩
      have hb2 := hb.drew.trans (hb1.mono hb.size)
      clear hq
      go_wp2
      first | (refine ⟨⟨k + 1, by omega, by go_num, hb2⟩, ?_⟩; (simp [intOf]; omega)) | (go_roundw; (case rel => first | exact ⟨k + 1, by omega, by go_num, hb2⟩ | ((try refine ⟨trivial, ?_⟩); (repeat apply Exists.intro); exact ⟨⟨k + 1, by omega, by go_num, hb2⟩, rfl⟩)); (case measure => (simp [intOf]; omega)))
    · go_wp2
      go_ret
      exact ⟨rfl, hb⟩

/-- the marks from k on, page by page -/
def markSS : List (List ByteArray) → Nat → List (List ByteArray)
  | [], _ => []
  | l :: r, k => markLS l.length k :: markSS r (k + l.length)
def sumSS : List (List ByteArray) → Nat
  | [] => 0
  | l :: r => l.length + sumSS r
theorem sumSS_app (a b : List (List ByteArray)) : sumSS (a ++ b) = sumSS a + sumSS b := by
  induction a with
  | nil => simp [sumSS]
  | cons x r ih => simp only [List.cons_append, sumSS, ih]; omega
theorem sumSS_take {L : List (List ByteArray)} {k : Nat} {l : List ByteArray} (h : L[k]? = some l) : sumSS (L.take (k + 1)) = sumSS (L.take k) + l.length := by
  rw [take_of_get h, sumSS_app]; simp [sumSS]
theorem sumSS_le (L : List (List ByteArray)) (k : Nat) : sumSS (L.take k) ≤ sumSS L := by
  conv => rhs; rw [← List.take_append_drop k L, sumSS_app]
  omega
theorem markSS_len : ∀ (L : List (List ByteArray)) (m : Nat), (markSS L m).length = L.length
  | [], _ => rfl
  | l :: r, m => by rw [markSS, List.length_cons, List.length_cons, markSS_len r]
theorem markSS_get : ∀ (L : List (List ByteArray)) (m k : Nat) (l : List ByteArray), L[k]? = some l → (markSS L m)[k]? = some (markLS l.length (m + sumSS (L.take k)))
  | [], _, _, _, h => by simp at h
  | x :: r, m, 0, l, h => by
    simp only [List.getElem?_cons_zero, Option.some.injEq] at h
    subst h
    rw [markSS, List.getElem?_cons_zero]
    simp [sumSS]
  | x :: r, m, k + 1, l, h => by
    rw [List.getElem?_cons_succ] at h
    rw [markSS, List.getElem?_cons_succ, markSS_get r _ k l h, List.take_succ_cons, sumSS]
    congr 2
    omega
/-- the first k pages marked -/
def markTo (L : List (List ByteArray)) (m k : Nat) : List (List ByteArray) := (markSS L m).take k ++ L.drop k
theorem markTo_zero (L : List (List ByteArray)) (m : Nat) : markTo L m 0 = L := by simp [markTo]
theorem markTo_all (L : List (List ByteArray)) (m k : Nat) (h : L.length ≤ k) : markTo L m k = markSS L m := by
  unfold markTo
  rw [List.take_of_length_le (by rw [markSS_len]; exact h), List.drop_of_length_le h, List.append_nil]
theorem markTo_get (L : List (List ByteArray)) (m k j : Nat) (hk : k ≤ L.length) : (markTo L m k)[j]? = if j < k then (markSS L m)[j]? else L[j]? := by
  unfold markTo
  have hl : ((markSS L m).take k).length = k := by rw [List.length_take, markSS_len]; omega
  split
  · rename_i h
    rw [List.getElem?_append_left (by omega), List.getElem?_take, if_pos h]
  · rename_i h
    rw [List.getElem?_append_right (by omega), hl, List.getElem?_drop]
    congr 1
    omega
/-- what is written: the pages' own blocks -/
def PgF (ps : List Sl) (j : Nat) : Prop := ∃ (k : Nat) (p : Sl), ps[k]? = some p ∧ Value.ownBlock (.slice p.A p.n p.c) = some j
set_option maxHeartbeats 2000000 in
theorem l_markStringSS (base : Nat) (A : Option Addr) (n c : Nat) (ps : List Sl) (L : List (List ByteArray)) (m : Nat) (w : World) (hg : GL slE 22 base w (.slice A n c) ps) (hp : PgW base w (.slice A n c) ps L) (hn : n ≤ 1048576) (hL : sumSS L ≤ 4194304) (hm : m ≤ 1048576) (hbw : base ≤ w.heap.size) :
    Calls Try.prog 11 #[.slice A n c, .int .i64 m] w fun e w' => e = .returned (.int .i64 ((m + sumSS L : Nat) : Int)) ∧ GL slE 22 base w' (.slice A n c) ps ∧ PgW base w' (.slice A n c) ps (markSS L m) ∧ Touch (PgF ps) w w' := by
  have Hl := Lib.hid hg.len
  have HG := Lib.hid hg
  have HP := Lib.hid hp
  have HLn := Lib.hid (hp.len.symm.trans hg.len)
  clear hg hp
  go_enter Try.func11, Try.ntmps11
  go_wp2_with fail
  go_loopw [1, 5] (fun t i wr => ∃ k : Nat, k ≤ n ∧ i = .int .i64 k ∧ t = .int .i64 ((m + sumSS (L.take k) : Nat) : Int) ∧ Hid (GL slE 22 base wr (.slice A n c) ps) ∧ Hid (PgW base wr (.slice A n c) ps (markTo L m k)) ∧ Touch (PgF ps) w wr) (fun _ i _ => n - (intOf i).toNat)
  case atStart => exact ⟨0, Nat.zero_le _, rfl, by simp [sumSS], HG, Lib.hid (by rw [markTo_zero]; exact HP.out), Touch.refl _ w⟩
  case round =>
    obtain ⟨k, hk, rfl, rfl, HGr, HPr, ht⟩ := hrel
    have hss := sumSS_le L k
    by_cases hkn : k < n
    · obtain ⟨g, rfl⟩ := HGr.out.place (by omega)
      obtain ⟨p, hpk⟩ : ∃ p, ps[k]? = some p := get_ex (by rw [Hl.out]; exact hkn)
      obtain ⟨l, hlk⟩ : ∃ l, L[k]? = some l := get_ex (by rw [HLn.out]; exact hkn)
      have hmk : (markTo L m k)[k]? = some l := by rw [markTo_get L m k k (by rw [HLn.out]; exact hk), if_neg (by omega)]; exact hlk
      have hrow := HPr.out.row k p l hpk hmk
      have hc0 := HGr.out.range k
      rw [drop_of_get hpk] at hc0
      have hx0 := hc0 0 (.slice p.A p.n p.c) rfl
      simp only [slE, Nat.mul_one, Nat.add_zero] at hx0
      have hln : l.length = p.n := hrow.len
      have hs2 := sumSS_take hlk
      have hs3 := sumSS_le L (k + 1)
      have hO : OL strE 9 (fun j => Value.ownBlock (.slice p.A p.n p.c) = some j) wr p.A p.n p.c l := by
        obtain ⟨e1, e2⟩ := hrow.own
        refine ⟨⟨e2.1, ?_⟩, e1, fun j hj => hj⟩
        rcases e2.2 with h' | ⟨g', cap, cur, q, _, r⟩
        · exact .inl h'
        · exact .inr ⟨g', cap, cur, q, Nat.zero_le _, r⟩
      have hcall := l_markStringS (fun j => Value.ownBlock (.slice p.A p.n p.c) = some j) p.A p.n p.c l ((m + sumSS (L.take k) : Nat) : Int) wr hO (by omega) (by omega) (by omega)
      rw [Int.toNat_natCast] at hcall
      have HM := Lib.hid (markSS_get L m k l hlk)
      have HK := Lib.hid hpk
      have HS := Lib.hid hs2
      have hlow := hrow.low
      clear hc0 hrow hO hpk hlk hmk hs2
      go_wp2_with fail
      refine hcall.mono ?_
      rintro e w1 ⟨rfl, hO1, ht1⟩
      clear hcall hx0
      have HG1 := Lib.hid (HGr.out.touch ht1 fun j h1 h2 => HP.out.out k p HK.out j h2 h1)
      have HT1 : Touch (PgF ps) w w1 := ht.trans (ht1.mono fun j hj => ⟨k, p, HK.out, hj⟩)
      have HP1 : Hid (PgW base w1 (.slice (some ⟨g, 0, none⟩) n c) ps (markTo L m (k + 1))) := Lib.hid (by
        have hkL : k ≤ L.length := by rw [HLn.out]; exact hk
        have hkL1 : k + 1 ≤ L.length := by rw [HLn.out]; omega
        refine ⟨?_, fun j q r hq hr => ?_, HP.out.out, HP.out.two⟩
        · rw [HP.out.len]; unfold markTo; rw [List.length_append, List.length_take, markSS_len, List.length_drop]; omega
        · rw [markTo_get L m (k + 1) j hkL1] at hr
          by_cases hjk : j = k
          · subst hjk
            rw [if_pos (by omega), HM.out] at hr
            cases hr
            rw [HK.out] at hq
            cases hq
            rw [hln]
            exact hO1.toGL hlow
          · have hold : (markTo L m k)[j]? = some r := by
              rw [markTo_get L m k j hkL]
              by_cases h1 : j < k
              · rw [if_pos h1]; rw [if_pos (by omega)] at hr; exact hr
              · rw [if_neg h1]; rw [if_neg (by omega)] at hr; exact hr
            exact (HPr.out.row j q r hq hold).touch ht1 fun i h1 h2 => HP.out.two j k q p hjk hq HK.out i h1 h2)
      clear HGr HPr ht ht1 hO1 hlow
      go_wp2
      first | (refine ⟨⟨k + 1, by omega, by go_num, by rw [HS.out, hln]; go_num, HG1, HP1, HT1⟩, ?_⟩; (simp [intOf]; omega)) | (go_roundw; (case rel => first | exact ⟨k + 1, by omega, by go_num, by rw [HS.out, hln]; go_num, HG1, HP1, HT1⟩ | ((try refine ⟨trivial, ?_⟩); (repeat apply Exists.intro); exact ⟨⟨k + 1, by omega, by go_num, by rw [HS.out, hln]; go_num, HG1, HP1, HT1⟩, rfl⟩)); (case measure => (simp [intOf]; omega)))
    · obtain rfl : k = n := by omega
      have E : Hid (sumSS (L.take k) = sumSS L ∧ markTo L m k = markSS L m) := Lib.hid ⟨by rw [List.take_of_length_le (by rw [HLn.out]; exact Nat.le_refl _)], markTo_all L m k (by rw [HLn.out]; exact Nat.le_refl _)⟩
      rw [E.out.1]
      go_wp2
      go_ret
      exact ⟨rfl, HGr.out, by rw [← E.out.2]; exact HPr.out, ht⟩
set_option maxHeartbeats 2000000 in
theorem l_heldStringSS (base : Nat) (A : Option Addr) (n c : Nat) (ps : List Sl) (L : List (List ByteArray)) (m : Nat) (w : World) (hg : GL slE 22 base w (.slice A n c) ps) (hp : PgW base w (.slice A n c) ps (markSS L m)) (hn : n ≤ 1048576) (hL : sumSS L ≤ 4194304) (hm : m ≤ 1048576) :
    Calls Try.prog 12 #[.slice A n c, .int .i64 m] w (HeldR ((m + sumSS L : Nat) : Int) w) := by
  have Hl := Lib.hid hg.len
  have HG := Lib.hid hg
  have HP := Lib.hid hp
  have HLn : Hid (L.length = n) := Lib.hid (by have := hp.len.symm.trans hg.len; rwa [markSS_len] at this)
  clear hg hp
  go_enter Try.func12, Try.ntmps12
  go_wp2_with fail
  go_loopw [1, 5] (fun t i wr => ∃ k : Nat, k ≤ n ∧ i = .int .i64 k ∧ t = .int .i64 ((m + sumSS (L.take k) : Nat) : Int) ∧ Below w.heap.size w wr) (fun _ i _ => n - (intOf i).toNat)
  case atStart => exact ⟨0, Nat.zero_le _, rfl, by simp [sumSS], Below.refl _ _⟩
  case round =>
    obtain ⟨k, hk, rfl, rfl, hb⟩ := hrel
    have hss := sumSS_le L k
    by_cases hkn : k < n
    · obtain ⟨g, rfl⟩ := HG.out.place (by omega)
      obtain ⟨p, hpk⟩ : ∃ p, ps[k]? = some p := get_ex (by rw [Hl.out]; exact hkn)
      obtain ⟨l, hlk⟩ : ∃ l, L[k]? = some l := get_ex (by rw [HLn.out]; exact hkn)
      have hrow := (HP.out.row k p _ hpk (markSS_get L m k l hlk)).below hb
      have hc0 := (HG.out.below hb).range k
      rw [drop_of_get hpk] at hc0
      have hx0 := hc0 0 (.slice p.A p.n p.c) rfl
      simp only [slE, Nat.mul_one, Nat.add_zero] at hx0
      have hln : l.length = p.n := by have := hrow.len; rwa [markLS_len] at this
      have hs2 := sumSS_take hlk
      have hs3 := sumSS_le L (k + 1)
      have hO : OL strE 9 (fun j => Value.ownBlock (.slice p.A p.n p.c) = some j) wr p.A p.n p.c (markLS p.n (m + sumSS (L.take k))) := by
        rw [hln] at hrow
        obtain ⟨e1, e2⟩ := hrow.own
        refine ⟨⟨e2.1, ?_⟩, e1, fun j hj => hj⟩
        rcases e2.2 with h' | ⟨g', cap, cur, q, _, r⟩
        · exact .inl h'
        · exact .inr ⟨g', cap, cur, q, Nat.zero_le _, r⟩
      have hcall := l_heldStringS (fun j => Value.ownBlock (.slice p.A p.n p.c) = some j) p.A p.n p.c ((m + sumSS (L.take k) : Nat) : Int) wr (by rw [Int.toNat_natCast]; exact hO) (by omega) (by omega) (by omega)
      have HS := Lib.hid hs2
      have hne : ¬ ((m + sumSS (L.take k) : Nat) : Int) + (p.n : Int) < 0 := by omega
      clear hc0 hrow hO hpk hlk hs2
      go_wp2_with fail
      refine hcall.mono ?_
      rintro e w1 ⟨rfl, hb1⟩
      have hbN := hb.trans (hb1.mono hb.size)
      clear hcall hx0
      go_wp2
      first | (refine ⟨⟨k + 1, by omega, by go_num, by rw [HS.out, hln]; go_num, hbN⟩, ?_⟩; (simp [intOf]; omega)) | (go_roundw; (case rel => first | exact ⟨k + 1, by omega, by go_num, by rw [HS.out, hln]; go_num, hbN⟩ | ((try refine ⟨trivial, ?_⟩); (repeat apply Exists.intro); exact ⟨⟨k + 1, by omega, by go_num, by rw [HS.out, hln]; go_num, hbN⟩, rfl⟩)); (case measure => (simp [intOf]; omega)))
    · obtain rfl : k = n := by omega
      have E : Hid (sumSS (L.take k) = sumSS L) := Lib.hid (by rw [List.take_of_length_le (by rw [HLn.out]; exact Nat.le_refl _)])
      rw [E.out]
      go_wp2
      go_ret
      exact ⟨rfl, hb⟩
end Go.Proofs.Ytlnhjjcficoldaa

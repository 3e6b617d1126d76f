/- The walk of the law on customers. Printed by a program of mine. -/
import Derived.Test.YtbgmhlbcohdobaaGreatDoorRows
import Derived.Test.YtbgmhlbcohdobaaGreatDoorCustB
import Derived.Test.YtbgmhlbcohdobaaGreatDoorDrawVisit
import Derived.Test.YtbgmhlbcohdobaaGreatDoorLawB
import Derived.Test.YtbgmhlbcohdobaaGreatDoorLoopU
import Derived.Deep.DeepCutAuto
namespace Go.Proofs.YtbgmhlbcohdobaaGreatDoor
set_option linter.unusedVariables false
set_option linter.unusedSimpArgs false
set_option linter.unusedSectionVars false
open Go.RowKit

theorem visitwhos_ok : ∀ s ∈ visitwhos, nameB s = true := by
  simp only [visitwhos, nameB, ByteArray.toList_eq]
  decide
theorem VisitList.okAll {l : List DVisit} {n : Nat} (h : VisitList 330 l) (hl : l.length = n) (h9 : n ≤ 9) : OkVs l where
  ok := fun x hx => by
    have h1 := h.ok x hx
    have h2 := h1.1.bKind
    have h3 := h1.1.bAmount
    exact ⟨h1.2.1, by omega, visitwhos_ok _ h1.1.bWho, h2, h3.1, by omega⟩
  asc := fun j p x hp hx => pair_next h.asc hp hx
  few := by omega
  amt := fun x hx => (h.ok x hx).1.bAmount
/-- the names of some visits -/
structure NamesOf (l : List DVisit) (ns : List ByteArray) : Prop where
  nodup : ns.Nodup
  asc : ns.Pairwise fun a b => leS a b ∧ a ≠ b
  all : sumBy (spB l) ns = sumBy (fun x : DVisit => x.fAmount) l
  few : ns.length ≤ l.length
theorem names_of (l : List DVisit) : NamesOf l (uniqB (sortB (l.map fun x => x.fWho))) where
  nodup := names_nodup _
  asc := names_asc _
  all := spent_all (f := fun x : DVisit => x.fWho) (g := fun x : DVisit => x.fAmount) (names_nodup _) fun x hx => (names_mem _ _).2 (List.mem_map.2 ⟨x, hx, rfl⟩)
  few := by
    have := names_len (l.map fun x => x.fWho)
    rwa [List.length_map] at this
theorem less_of {a b : ByteArray} (h : leS a b ∧ a ≠ b) : Op.bytesLess a.toList b.toList = true := by
  rcases hb : Op.bytesLess a.toList b.toList with _ | _
  · exact absurd (leS_antisymm h.1 (notless_leS b a hb)) h.2
  · rfl
theorem kinds_drop {l : List DVisit} {k : Nat} {x : DVisit} (hx : l[k]? = some x) (h : 1 ≤ x.fKind ∧ x.fKind ≤ 4) : (kindsOf (l.drop k)).set (x.fKind - 1).toNat (sumBy (kindAmt x.fKind) (l.drop k) - x.fAmount) = kindsOf (l.drop (k + 1)) := by
  have hd : ∀ q, sumBy (kindAmt q) (l.drop k) = kindAmt q x + sumBy (kindAmt q) (l.drop (k + 1)) := fun q => sumBy_drop hx
  unfold kindsOf
  rw [hd, hd, hd, hd, hd]
  have h4 : x.fKind = 1 ∨ x.fKind = 2 ∨ x.fKind = 3 ∨ x.fKind = 4 := by omega
  rcases h4 with e | e | e | e <;> rw [e] <;> unfold kindAmt <;> rw [e] <;> simp <;> omega
/-- how often a name stands among some -/
def cntS (L : List ByteArray) (s : ByteArray) : Nat := (L.filter fun u => u.toList == s.toList).length
theorem cntS_take {L : List ByteArray} {k : Nat} {u : ByteArray} (h : L[k]? = some u) (s : ByteArray) : cntS (L.take (k + 1)) s = cntS (L.take k) s + if (u.toList == s.toList) = true then 1 else 0 := by
  unfold cntS
  rw [take_of_get h, List.filter_append, List.length_append]
  by_cases e : (u.toList == s.toList) = true
  · rw [if_pos e]; simp [List.filter_cons, e]
  · rw [if_neg e]; simp [List.filter_cons, e]
theorem cntS_one {L ns : List ByteArray} (hp : L.Perm ns) (hn : ns.Nodup) {s : ByteArray} (hs : s ∈ ns) : cntS L s = 1 := by
  have h1 : cntS L s = cntS ns s := (hp.filter _).length_eq
  rw [h1]
  clear h1 hp
  induction ns with
  | nil => cases hs
  | cons a r ih =>
    rw [List.nodup_cons] at hn
    unfold cntS
    by_cases e : a = s
    · have h0 : r.filter (fun u => u.toList == s.toList) = [] := by
        rw [List.filter_eq_nil_iff]
        intro u hu h
        have : u = s := by
          have := eq_of_beq h
          rw [ByteArray.toList_eq, ByteArray.toList_eq] at this
          exact ba_ext this
        rw [this, ← e] at hu
        exact hn.1 hu
      rw [List.filter_cons_of_pos (p := fun u : ByteArray => u.toList == s.toList) (by rw [e]; exact beq_self_eq_true _), h0]
      rfl
    · have hne : ¬ (a.toList == s.toList) = true := fun h => e (by
        have := eq_of_beq h
        rw [ByteArray.toList_eq, ByteArray.toList_eq] at this
        exact ba_ext this)
      rw [List.filter_cons_of_neg (p := fun u : ByteArray => u.toList == s.toList) hne]
      exact ih hn.2 ((List.mem_cons.1 hs).resolve_left fun h => e h.symm)
theorem nameW2 {B : Nat} {w0 w : World} (h : Below B w0 w) : ∃ W, W = w ∧ Below B w0 W := ⟨w, rfl, h⟩
set_option maxRecDepth 100000 in
set_option maxHeartbeats 40000000 in
theorem w_Customers (A0 : Option Addr) (n0 c0 : Nat) (l0 : List UInt8) (A1 : Option Addr) (n1 c1 : Nat) (l1 : List UInt8) (w : World) (hr0 : Rd byteE w A0 n0 l0) (hn0 : n0 ≤ maxLen) (hg0 : ∀ x ∈ l0, (0 : Int) ≤ (x.toNat : Int)) (hr1 : Rd byteE w A1 n1 l1) (hn1 : n1 ≤ maxLen) (hg1 : ∀ x ∈ l1, (0 : Int) ≤ (x.toNat : Int)) (hL : LibW w) :
    Calls Tryz.prog 3 #[.slice A0 n0 c0, .slice A1 n1 c1] w (RetB true w) := by
  obtain ⟨i0, hi, hz0, hz1, hz2⟩ := info_parts Tryz.info_int
  have HZ := Lib.hid (And.intro hz1 hz2)
  clear hz1 hz2
  clear hg0 hg1
  go_enter Tryz.func3, Tryz.ntmps3
  go_wp2_with fail
  refine (l_r8Long A0 A1 n0 c0 n1 c1 _ hn0 hn1).mono ?_
  rintro e w' ⟨rfl, rfl⟩
  rcases hlong : (decide (1048576 < n0) || decide (1048576 < n1)) with _ | _
  rotate_left
  · clear hlong
    go_wp2
    go_ret
    exact ⟨rfl, Below.refl _ _⟩
  have hs0 : n0 ≤ 1048576 ∧ n1 ≤ 1048576 := by
    rw [Bool.or_eq_false_iff, decide_eq_false_iff_not, decide_eq_false_iff_not] at hlong
    omega
  clear hlong
  go_wp2_with fail
  refine (s_R8Visits A0 n0 c0 l0 w hr0 hs0.1).mono ?_
  rintro e w1 ⟨A, n, c, l, hql, hl, hn9, rfl, hgl, hB⟩
  have HOK := Lib.hid (hql.okAll hl hn9)
  have HL := Lib.hid hl
  have HR1 := Lib.hid hgl.rd
  have HB1 := Lib.hid hB
  clear hql hl hgl hB
  have HNO : Hid (NamesOf l (uniqB (sortB (l.map fun x => x.fWho)))) := Lib.hid (names_of l)
  have KN : Hid (∀ W, Rd visitE W A n l → Calls Tryz.prog 6 #[.slice A n c] W fun e w' => ∃ (g m c' : Nat), e = .returned (.tuple #[.slice (some ⟨g, 0, none⟩) m c', .int .i64 0]) ∧ GL strE 9 W.heap.size w' (.slice (some ⟨g, 0, none⟩) m c') (uniqB (sortB (l.map fun x => x.fWho))) ∧ Below W.heap.size W w') := Lib.hid fun W h => i_CustomersOf A n c l W h HOK.out
  have KB : Hid (∀ W, Rd visitE W A n l → Calls Tryz.prog 8 #[.slice A n c, .int .i64 32] W fun e w' => ∃ (A' : Option Addr) (m c' : Nat) (L : List ByteArray), L.Perm (uniqB (sortB (l.map fun x => x.fWho))) ∧ L.Pairwise (RB l) ∧ e = .returned (.tuple #[.slice A' m c', .int .i64 0]) ∧ GL strE 9 W.heap.size w' (.slice A' m c') L ∧ Below W.heap.size W w') := Lib.hid fun W h => i_BestCustomers A n c l W h HOK.out
  obtain ⟨NS, hNS⟩ : ∃ NS, uniqB (sortB (l.map fun x => x.fWho)) = NS := ⟨_, rfl⟩
  rw [hNS] at HNO KN KB
  clear hNS
  as_aux_lemma =>
    go_wp2_with fail
    refine (KN.out w1 HR1.out).mono ?_
    rintro e w2 ⟨gN, m, cN, rfl, hglN, hb2⟩
    clear KN
    as_aux_lemma =>
      go_wp2_with fail
      refine (i_ByKinds A n c l w2 (HR1.out.below hb2) HOK.out).mono ?_
      rintro e w3 ⟨gK, rfl, hglK, hb3⟩
      have hb23 := hb2.trans (hb3.mono hb2.size)
      as_aux_lemma =>
        go_wp2_with fail
        refine (KB.out w3 (HR1.out.below hb23)).mono ?_
        rintro e w4 ⟨AB, mB, cB, BS, hperm, hsrt, rfl, hglB, hb4⟩
        obtain rfl : m = mB := by
          have h1 := hperm.length_eq
          have h2 := hglN.len
          have h3 := hglB.len
          omega
        have hb24 := hb23.trans (hb4.mono hb23.size)
        have HBP := Lib.hid hperm
        have HBR := Lib.hid hsrt
        have HNL := Lib.hid hglN.len
        have HBL2 := Lib.hid hglB.len
        have hm9 : m ≤ 9 := by have := HNL.out; have := HNO.out.few; have := HOK.out.few; omega
        clear hperm hsrt KB
        as_aux_lemma =>
          go_wp2_with fail
          refine (i_ValidVisits A n c l w4 (HR1.out.below hb24) HOK.out).mono ?_
          rintro e w5 ⟨rfl, hb5⟩
          have HGN := Lib.hid (((hglN.below hb3).below hb4).below hb5)
          have HGB := Lib.hid (hglB.below hb5)
          have HGK := Lib.hid ((hglK.below hb4).below hb5)
          have hb25 := hb24.trans (hb5.mono hb24.size)
          have HR5 := Lib.hid (HR1.out.below hb25)
          have HB5 := Lib.hid (HB1.out.trans (hb25.mono HB1.out.size))
          have HBL : Hid (0 < n → ∀ b o p, A = some ⟨b, o, p⟩ → b < w5.heap.size) := Lib.hid HR5.out.blockLt
          clear hglN hglB hglK hb2 hb3 hb4 hb5 hb23 hb24 hb25 HR1 HB1
          as_aux_lemma =>
            have hmm : ((m : Int) != (m : Int)) = false := by simp
            have hG0 : GL intE 2 w5.heap.size (w5.alloc (.cells #[] 2)) (.slice (some ⟨w5.heap.size, 0, none⟩) 0 0) [] := GL.mk0 (Nat.le_refl _)
            have hbA : Below w5.heap.size w5 (w5.alloc (.cells #[] 2)) := (Below.refl _ _).alloc (Nat.le_refl _) _
            have hrK := HGK.out.rd.below hbA
            have hsA : w5.heap.size ≤ (w5.alloc (.cells #[] 2)).heap.size := hbA.size
            go_wp2_with (at_builtin; refine wpList_pushL intE rfl _ _ 29 rfl w5.heap.size 2 i0 _ 8 Tryz.underlying29 hi hz0 HZ.out.1 HZ.out.2 rfl (.slice (some ⟨w5.heap.size, 0, none⟩) 0 0) [] (kindsOf l) rfl hG0 (some ⟨gK, 0, none⟩) 4 4 rfl rfl (fun h => by cases h) (Rd.src hrK) 4 (by simp) (kindsOf l) (by simp) (by omega) (by decide) w5 hbA hsA ?_; intro A1s cS w6 hgl6 hcap6 hb6 hs6)
            obtain ⟨gS, rfl⟩ := hgl6.place (by omega)
            have HGS := Lib.hid hgl6
            have hbS := hb6
            clear hmm hG0 hbA hrK hsA hgl6 hcap6 hb6 hs6
            refine wp_loop_U (fun U_ => [U_ 0, .slice A1 n1 c1, U_ 2, U_ 3, U_ 4, .slice A n c, .slice (some ⟨gN, 0, none⟩) m cN, U_ 7, U_ 8, U_ 9, .slice AB m cB, U_ 11, U_ 12, .slice (some ⟨gS, 0, none⟩) 4 cS, U_ 14, U_ 15, U_ 16, U_ 17, U_ 18, U_ 19, U_ 20, U_ 21, U_ 22, U_ 23, U_ 24, U_ 25, U_ 26, U_ 27, U_ 28, U_ 29, U_ 30, U_ 31, U_ 32, U_ 33, U_ 34, U_ 35, U_ 36, U_ 37, U_ 38, U_ 39, U_ 40, U_ 41, U_ 42, U_ 43, U_ 44, U_ 45, U_ 46, U_ 47, U_ 48, U_ 49, U_ 50, U_ 51, U_ 52, U_ 53, U_ 54, U_ 55, U_ 56, U_ 57, U_ 58, U_ 59, U_ 60, U_ 61, U_ 62, U_ 63, U_ 64, U_ 65, U_ 66, U_ 67, U_ 68, U_ 69, U_ 70, U_ 71, U_ 72, U_ 73, U_ 74, U_ 75, U_ 76, U_ 77, U_ 78, U_ 79, U_ 80, U_ 81, U_ 82, U_ 83, U_ 84, U_ 85, U_ 86, U_ 87, U_ 88, U_ 89, U_ 90, U_ 91, U_ 92, U_ 93, U_ 94, U_ 95, U_ 96, U_ 97, U_ 98, U_ 99, U_ 100, U_ 101, U_ 102, U_ 103, U_ 104, U_ 105, U_ 106, U_ 107, U_ 108, U_ 109, U_ 110, U_ 111, U_ 112, U_ 113, U_ 114, U_ 115, U_ 116, U_ 117, U_ 118, U_ 119, U_ 120, U_ 121, U_ 122, U_ 123, U_ 124, U_ 125, U_ 126, U_ 127, U_ 128, U_ 129, U_ 130, U_ 131, U_ 132, U_ 133, U_ 134, U_ 135, U_ 136, U_ 137, U_ 138, U_ 139, U_ 140, U_ 141, U_ 142, U_ 143, U_ 144, U_ 145, U_ 146, U_ 147, U_ 148, U_ 149, U_ 150, U_ 151, U_ 152, U_ 153, U_ 154, U_ 155, U_ 156, U_ 157, U_ 158, U_ 159, U_ 160, U_ 161, U_ 162, U_ 163, U_ 164, U_ 165, U_ 166, U_ 167, U_ 168, U_ 169, U_ 170, U_ 171, U_ 172, U_ 173, U_ 174, U_ 175, U_ 176, U_ 177, U_ 178, U_ 179, U_ 180, U_ 181, U_ 182, U_ 183, U_ 184, U_ 185, U_ 186, U_ 187, U_ 188, U_ 189, U_ 190, U_ 191, U_ 192, U_ 193, U_ 194, U_ 195, U_ 196, U_ 197, U_ 198, U_ 199, U_ 200, U_ 201, U_ 202, U_ 203, U_ 204, U_ 205, U_ 206, U_ 207, U_ 208, U_ 209, U_ 210, U_ 211, U_ 212, U_ 213, U_ 214, U_ 215, U_ 216, U_ 217, U_ 218, U_ 219, U_ 220, U_ 221, U_ 222, U_ 223, U_ 224, U_ 225, U_ 226, U_ 227, U_ 228, U_ 229, U_ 230, U_ 231, U_ 232, U_ 233, U_ 234, U_ 235, U_ 236, U_ 237, U_ 238, U_ 239, U_ 240, U_ 241, U_ 242, U_ 243, U_ 244, U_ 245, U_ 246, U_ 247, U_ 248, U_ 249, U_ 250, U_ 251, U_ 252, U_ 253, U_ 254, U_ 255, U_ 256, U_ 257, U_ 258, U_ 259, U_ 260, U_ 261, U_ 262, U_ 263, U_ 264, U_ 265, U_ 266, U_ 267, U_ 268, U_ 269, U_ 270, U_ 271, U_ 272, U_ 273, U_ 274, U_ 275, U_ 276, U_ 277, U_ 278, U_ 279, U_ 280, U_ 281, U_ 282, U_ 283, U_ 284]) (fun U_ wr => ∃ k : Nat, k ≤ n ∧ U_ 14 = .int .i64 k ∧ U_ 12 = .int .i64 (sumBy (fun x : DVisit => x.fAmount) (l.take k)) ∧ GL intE 2 w5.heap.size wr (.slice (some ⟨gS, 0, none⟩) 4 cS) (kindsOf (l.drop k)) ∧ Below w5.heap.size w5 wr) (fun U_ => n - (intOf (U_ 14)).toNat) (by kernel_rfl) ⟨0, Nat.zero_le _, rfl, rfl, by rw [List.drop_zero]; exact HGS.out, hbS⟩ ?_
            intro U_ wr mma_ hrel hma_
            dsimp only
            as_aux_lemma =>
              · skip
                obtain ⟨k, hk, e14_, e12_, hgl, hb⟩ := hrel
                have hka_ : n - (intOf (U_ 14)).toNat = mma_ := hma_.out
                rw [e14_] at hka_
                have HMa_ : Hid (n - k = mma_) := Lib.hid hka_
                clear hma_ hka_
                rw [e14_, e12_]
                clear e14_ e12_
                by_cases hlt : k < n
                · skip
                  as_aux_lemma =>
                    obtain ⟨b, off, rfl, hcs⟩ := HR5.out.2 (by omega)
                    obtain ⟨x, hx⟩ : ∃ x, l[k]? = some x := ⟨_, List.getElem?_eq_getElem (by have := HL.out; omega)⟩
                    have hcr := range_below (B := 0) (hcs k x hx) hb
                    have hc0 := hcr 0 _ rfl
                    have hc1 := hcr 1 _ rfl
                    have hc2 := hcr 2 _ rfl
                    have hc3 := hcr 3 _ rfl
                    simp only [visitE, Nat.add_zero] at hc0 hc1 hc2 hc3
                    have HX := Lib.hid hx
                    have HXO := Lib.hid (HOK.out.ok x (mem_of_get hx))
                    have HXA := Lib.hid (HOK.out.amt x (mem_of_get hx))
                    have hsum := sum_range (l := l.take k) (fun y hy => HOK.out.amt y (List.mem_of_mem_take hy)) (by rw [List.length_take]; have := HOK.out.few; omega)
                    have HS : Hid (sumBy (fun x : DVisit => x.fAmount) (l.take (k + 1)) = sumBy (fun x : DVisit => x.fAmount) (l.take k) + x.fAmount) := Lib.hid (sumBy_take hx)
                    obtain ⟨AL, hAL⟩ : ∃ S, sumBy (fun x : DVisit => x.fAmount) (l.take k) = S := ⟨_, rfl⟩
                    rw [hAL] at HS hsum ⊢
                    clear hAL hcr hcs hx
                    have K4 : Hid (∀ W, LibW W → Calls Tryz.prog 11 #[.agg #[.int .i64 x.fDay, .string x.fWho, .int .i64 x.fKind, .int .i64 x.fAmount]] W fun e w' => e = .returned (.string (visitText x)) ∧ Below W.heap.size W w') := Lib.hid fun W h => i_VisitText x W HXO.out h
                    have K5 : Hid (∀ W, LibW W → Calls Tryz.prog 10 #[.string (visitText x)] W fun e w' => e = .returned (.tuple #[.agg #[.int .i64 x.fDay, .string x.fWho, .int .i64 x.fKind, .int .i64 x.fAmount], .bool true]) ∧ Below W.heap.size W w') := Lib.hid fun W h => i_ReadVisit x W HXO.out h
                    obtain ⟨TX, hTX⟩ : ∃ TX, visitText x = TX := ⟨_, rfl⟩
                    rw [hTX] at K4 K5
                    clear hTX
                    go_wp2_with fail
                    refine (K4.out _ (hL.below (HB5.out.trans (hb.mono HB5.out.size)))).mono ?_
                    rintro e w6 ⟨rfl, hb6⟩
                    have hbB := hb.trans (hb6.mono hb.size)
                    go_wp2_with fail
                    refine (K5.out _ (hL.below (HB5.out.trans (hbB.mono HB5.out.size)))).mono ?_
                    rintro e w7 ⟨rfl, hb7⟩
                    have hb67 := hb6.trans (hb7.mono hb6.size)
                    have hcy := range_new w7 #[.int .i64 x.fDay, .string x.fWho, .int .i64 x.fKind, .int .i64 x.fAmount] 35
                    have hba : Below w7.heap.size w7 (w7.alloc (.cells #[.int .i64 x.fDay, .string x.fWho, .int .i64 x.fKind, .int .i64 x.fAmount] 35)) := (Below.refl _ _).alloc (Nat.le_refl _) _
                    have hbA := hb67.trans (hba.mono hb67.size)
                    have hz7 := hbB.size
                    have hz8 := hb7.size
                    have hz9 := hb6.size
                    have hgSlt := (hgl.own.2.lt gS rfl).2
                    obtain ⟨W7, hW7⟩ : ∃ W7, w7.alloc (.cells #[.int .i64 x.fDay, .string x.fWho, .int .i64 x.fKind, .int .i64 x.fAmount] 35) = W7 := ⟨_, rfl⟩
                    rw [hW7] at hcy hba hbA
                    have hy0 := hcy 0 _ rfl
                    have hy1 := hcy 1 _ rfl
                    have hy2 := hcy 2 _ rfl
                    have hy3 := hcy 3 _ rfl
                    simp only [Nat.zero_add] at hy0 hy1 hy2 hy3
                    replace hc0 := cell_later hbA hc0
                    replace hc1 := cell_later hbA hc1
                    replace hc2 := cell_later hbA hc2
                    replace hc3 := cell_later hbA hc3
                    have hgl7 := hgl.below hbA
                    have hb5A := hb.trans (hbA.mono hb.size)
                    clear hcy hb6 hb7 hb67 hbB K4 K5 hgl hb hbA hba
                    go_upto_region 15 with fail
                    try rw [hW7]
                    clear hW7
                    obtain ⟨bx, hbx⟩ : ∃ bx, w7.heap.size = bx := ⟨_, rfl⟩
                    rw [hbx] at hy0 hy1 hy2 hy3 ⊢
                    have hgSx : gS < bx := by omega
                    clear hbx hgSlt
                    as_aux_lemma =>
                      have hxa := HXA.out
                      have q0 : IntKind.i64.wrap (AL + x.fAmount) = AL + x.fAmount := wid (by omega)
                      go_upto_region 16 with fail
                      clear q0
                      have hk4 := HXO.out.k
                      have hsr := kindAmt_range (l := l.drop k) (fun y hy => HOK.out.amt y (List.mem_of_mem_drop hy)) (by rw [List.length_drop]; have := HOK.out.few; omega) x.fKind
                      have hat := kinds_at (l.drop k) hk4
                      have HN := Lib.hid (kinds_drop HX.out hk4)
                      obtain ⟨S, hS⟩ : ∃ S, sumBy (kindAmt x.fKind) (l.drop k) = S := ⟨_, rfl⟩
                      rw [hS] at hat hsr HN
                      obtain ⟨q, hq⟩ : ∃ q, (x.fKind - 1).toNat = q := ⟨_, rfl⟩
                      rw [hq] at hat HN
                      have hq4 : q < 4 := by omega
                      have hqw : IntKind.i64.wrap (x.fKind - 1) = (q : Int) := by rw [show x.fKind - 1 = (q : Int) by omega]; exact wid (by omega)
                      have hsw : IntKind.i64.wrap (S - x.fAmount) = S - x.fAmount := wid (by omega)
                      have hq4i : (q : Int) < 4 := by omega
                      have hq0i : (0 : Int) ≤ (q : Int) := by omega
                      have hcell := hgl7.cellI hat
                      have hfree := hgl7.free q
                      have hgS := hgl7.baseLe
                      have hglN := (hgl7.drew).setI (j := q) hq4 (S - x.fAmount)
                      rw [HN.out] at hglN
                      have htS : Touch (fun j => j = gS) W7 (W7.drew.setCell ⟨gS, q, none⟩ (.int .i64 (S - x.fAmount))) := (Touch.of_below ((Below.refl W7.heap.size W7).drew)).trans (Touch.setCell (F := fun j => j = gS) (w := W7.drew) (p := ⟨gS, q, none⟩) rfl _)
                      have hbN : Below w5.heap.size w5 (W7.drew.setCell ⟨gS, q, none⟩ (.int .i64 (S - x.fAmount))) := (hb5A.drew).setCell (p := ⟨gS, q, none⟩) hgS _
                      have hgn := hgl7.own.2.lt gS rfl
                      have hgx : ¬ bx = gS := fun e => by rw [e] at hgSx; exact Nat.lt_irrefl _ hgSx
                      have hgb : ¬ b = gS := by have := HBL.out (by omega) b off none rfl; omega
                      replace hc0 := touch_cell htS hgb hc0
                      replace hc1 := touch_cell htS hgb hc1
                      have hc2' := touch_cell htS hgb hc2
                      have hc3' := touch_cell htS hgb hc3
                      replace hy0 := touch_cell htS hgx hy0
                      replace hy1 := touch_cell htS hgx hy1
                      replace hy2 := touch_cell htS hgx hy2
                      replace hy3 := touch_cell htS hgx hy3
                      obtain ⟨W8, hW8⟩ : ∃ W8, W7.drew.setCell ⟨gS, q, none⟩ (.int .i64 (S - x.fAmount)) = W8 := ⟨_, rfl⟩
                      rw [hW8] at hc0 hc1 hc2' hc3' hy0 hy1 hy2 hy3 hbN hglN
                      have HGN := Lib.hid hglN
                      have HBN := Lib.hid hbN
                      have HC01 := Lib.hid (And.intro hc0 (And.intro hc1 (And.intro hc2' hc3')))
                      have HY := Lib.hid (And.intro hy0 (And.intro hy1 (And.intro hy2 hy3)))
                      clear hS hq hat hk4 hgl7 hglN hbN HN htS hb5A hc0 hc1 hc2' hc3' hy0 hy1 hy2 hy3
                      go_still_tail 16, (by kernel_rfl)
                      change wpList _ _ _ _ _ W7.drew
                      go_upto_region 17 with fail
                      try rw [hW8]
                      clear hW8 hcell hfree hc2 hc3 hqw hsw hsr
                      as_aux_lemma =>
                        obtain ⟨hc0, hc1, hc2, hc3⟩ := HC01.out
                        obtain ⟨hy0, hy1, hy2, hy3⟩ := HY.out
                        have hne := fun W => run_neq_Visit x x W
                        have hxx : x.eqv x = true := (DVisit.eqv_iff x x).2 rfl
                        rw [hxx] at hne
                        have HK : Hid (∀ W, Calls Tryz.prog 12 #[.int .i64 x.fKind] W fun e w' => e = .returned (.string (kindN x.fKind)) ∧ Below W.heap.size W w') := Lib.hid fun W => i_VisitKind x.fKind W
                        have hkw := (kind_word HXO.out.k).2.1
                        obtain ⟨KN, hKN⟩ : ∃ K, kindN x.fKind = K := ⟨_, rfl⟩
                        rw [hKN] at HK hkw
                        have t1 : ¬ KN.toList = [] := by rw [ByteArray.toList_eq]; exact hkw
                        have t2 : KN.toList.isEmpty = false := by rw [List.isEmpty_eq_false_iff]; exact t1
                        have t3 : (KN.toList == []) = false := by rw [beq_eq_false_iff_ne]; exact t1
                        clear hKN hkw HC01 HY
                        obtain ⟨w, hww⟩ : ∃ w, W8 = w := ⟨_, rfl⟩
                        subst hww
                        obtain ⟨w, hww⟩ : ∃ w, W8 = w := ⟨_, rfl⟩
                        rw [hww] at hc0 hc1 hc2 hc3 hy0 hy1 hy2 hy3 HGN HBN ⊢
                        clear hww
                        have hbr : Below w.heap.size w w := Below.refl _ _
                        let S : World → Prop := fun w' => w'.cell? ⟨b, off + k * 4, none⟩ = some (.int .i64 x.fDay) ∧ w'.cell? ⟨b, off + k * 4 + 1, none⟩ = some (.string x.fWho) ∧ w'.cell? ⟨b, off + k * 4 + 2, none⟩ = some (.int .i64 x.fKind) ∧ w'.cell? ⟨b, off + k * 4 + 3, none⟩ = some (.int .i64 x.fAmount) ∧ w'.cell? ⟨bx, 0, none⟩ = some (.int .i64 x.fDay) ∧ w'.cell? ⟨bx, 1, none⟩ = some (.string x.fWho) ∧ w'.cell? ⟨bx, 2, none⟩ = some (.int .i64 x.fKind) ∧ w'.cell? ⟨bx, 3, none⟩ = some (.int .i64 x.fAmount) ∧ Below w.heap.size w w'
                        have hS : S (World.drew w) := ⟨hc0, hc1, hc2, hc3, hy0, hy1, hy2, hy3, (hbr).drew⟩
                        have hne : Nonempty (Wd S) := ⟨⟨_, hS⟩⟩
                        have qc0 : ∀ t : Wd S, t.w.cell? ⟨b, off + k * 4, none⟩ = some (.int .i64 x.fDay) := fun t => t.h.1
                        have qc1 : ∀ t : Wd S, t.w.cell? ⟨b, off + k * 4 + 1, none⟩ = some (.string x.fWho) := fun t => t.h.2.1
                        have qc2 : ∀ t : Wd S, t.w.cell? ⟨b, off + k * 4 + 2, none⟩ = some (.int .i64 x.fKind) := fun t => t.h.2.2.1
                        have qc3 : ∀ t : Wd S, t.w.cell? ⟨b, off + k * 4 + 3, none⟩ = some (.int .i64 x.fAmount) := fun t => t.h.2.2.2.1
                        have qc4 : ∀ t : Wd S, t.w.cell? ⟨bx, 0, none⟩ = some (.int .i64 x.fDay) := fun t => t.h.2.2.2.2.1
                        have qc5 : ∀ t : Wd S, t.w.cell? ⟨bx, 1, none⟩ = some (.string x.fWho) := fun t => t.h.2.2.2.2.2.1
                        have qc6 : ∀ t : Wd S, t.w.cell? ⟨bx, 2, none⟩ = some (.int .i64 x.fKind) := fun t => t.h.2.2.2.2.2.2.1
                        have qc7 : ∀ t : Wd S, t.w.cell? ⟨bx, 3, none⟩ = some (.int .i64 x.fAmount) := fun t => t.h.2.2.2.2.2.2.2.1
                        have Q9 : Hid (∀ (t : Wd S) (w' : World), Below t.w.heap.size t.w w' → S w') := Lib.hid (fun t w' h => ⟨cell_later h t.h.1, cell_later h t.h.2.1, cell_later h t.h.2.2.1, cell_later h t.h.2.2.2.1, cell_later h t.h.2.2.2.2.1, cell_later h t.h.2.2.2.2.2.1, cell_later h t.h.2.2.2.2.2.2.1, cell_later h t.h.2.2.2.2.2.2.2.1, t.h.2.2.2.2.2.2.2.2.trans (h.mono t.h.2.2.2.2.2.2.2.2.size)⟩)
                        have QE : Hid (∀ w', S w' → w'.cell? ⟨b, off + k * 4, none⟩ = some (.int .i64 x.fDay) ∧ w'.cell? ⟨b, off + k * 4 + 1, none⟩ = some (.string x.fWho) ∧ w'.cell? ⟨b, off + k * 4 + 2, none⟩ = some (.int .i64 x.fKind) ∧ w'.cell? ⟨b, off + k * 4 + 3, none⟩ = some (.int .i64 x.fAmount) ∧ w'.cell? ⟨bx, 0, none⟩ = some (.int .i64 x.fDay) ∧ w'.cell? ⟨bx, 1, none⟩ = some (.string x.fWho) ∧ w'.cell? ⟨bx, 2, none⟩ = some (.int .i64 x.fKind) ∧ w'.cell? ⟨bx, 3, none⟩ = some (.int .i64 x.fAmount) ∧ Below w.heap.size w w') := Lib.hid (fun w' h => h)
                        refine wp_region_class S (by kernel_rfl) (by kernel_rfl) hS ?_
                        clear_value S
                        repeat (go_big_quiet_step ((first | (go_at_call 12; exact class_call _ (HK.out _) (fun e w' h => ⟨h.1, Q9.out _ _ h.2⟩)))))
                        refine wpQuiet_nil ?_
                        rintro _ ⟨⟨w1, hw1⟩, rfl⟩
                        have hE := QE.out _ hw1
                        have hbE := hE.2.2.2.2.2.2.2.2
                        clear hE
                        try dsimp only
                        clear hw1 hS hne Q9 QE qc0 qc1 qc2 qc3 qc4 qc5 qc6 qc7
                        obtain ⟨wc, rfl, hbF⟩ := nameW2 hbE
                        have hglF := Lib.hid (HGN.out.below hbF)
                        have hb9 := Lib.hid (HBN.out.trans (hbF.mono HBN.out.size))
                        clear hbE hbF hne hxx t1 t2 t3
                        go_wp2
                        exact LoopFr.of (by kernel_rfl) ⟨k + 1, by omega, rfl, by rw [HS.out]; rfl, hglF.out, hb9.out⟩ (by have h := HMa_.out; show n - (k + 1) < mma_; omega)
                · skip
                  as_aux_lemma =>
                    obtain rfl : n = k := by omega
                    have e1 : sumBy (fun x : DVisit => x.fAmount) (l.take n) = sumBy (fun x : DVisit => x.fAmount) l := by rw [List.take_of_length_le (by rw [HL.out]; exact Nat.le_refl _)]
                    rw [e1]
                    have e2 : kindsOf (l.drop n) = [0, 0, 0, 0] := by rw [List.drop_of_length_le (by rw [HL.out]; exact Nat.le_refl _)]; rfl
                    rw [e2] at hgl
                    have HTT : Hid (sumBy (spB l) NS = sumBy (fun x : DVisit => x.fAmount) l) := Lib.hid HNO.out.all
                    have hT := sum_range (l := l) (fun y hy => HOK.out.amt y hy) HOK.out.few
                    obtain ⟨TT, hTT⟩ : ∃ T, sumBy (fun x : DVisit => x.fAmount) l = T := ⟨_, rfl⟩
                    rw [hTT] at HTT hT ⊢
                    obtain ⟨w6, hw6⟩ : ∃ w6 : World, w6 = wr := ⟨_, rfl⟩
                    subst hw6
                    have HG6 := Lib.hid hgl
                    have HB6 := Lib.hid hb
                    clear hgl hb hTT e1 e2 hlt hk HGS hbS HGK
                    as_aux_lemma =>
                      go_wp2_with fail
                      refine wp_loop_U (fun U_ => [U_ 0, .slice A1 n1 c1, U_ 2, U_ 3, U_ 4, .slice A n c, .slice (some ⟨gN, 0, none⟩) m cN, U_ 7, U_ 8, U_ 9, .slice AB m cB, U_ 11, .int .i64 TT, .slice (some ⟨gS, 0, none⟩) 4 cS, U_ 14, U_ 15, U_ 16, U_ 17, U_ 18, U_ 19, U_ 20, U_ 21, U_ 22, U_ 23, U_ 24, U_ 25, U_ 26, U_ 27, U_ 28, U_ 29, U_ 30, U_ 31, U_ 32, U_ 33, U_ 34, U_ 35, U_ 36, U_ 37, U_ 38, U_ 39, U_ 40, U_ 41, U_ 42, U_ 43, U_ 44, U_ 45, U_ 46, U_ 47, U_ 48, U_ 49, U_ 50, U_ 51, U_ 52, U_ 53, U_ 54, U_ 55, U_ 56, U_ 57, U_ 58, U_ 59, U_ 60, U_ 61, U_ 62, U_ 63, U_ 64, U_ 65, U_ 66, U_ 67, U_ 68, U_ 69, U_ 70, U_ 71, U_ 72, U_ 73, U_ 74, U_ 75, U_ 76, U_ 77, U_ 78, U_ 79, U_ 80, U_ 81, U_ 82, U_ 83, U_ 84, U_ 85, U_ 86, U_ 87, U_ 88, U_ 89, U_ 90, U_ 91, U_ 92, U_ 93, U_ 94, U_ 95, U_ 96, U_ 97, U_ 98, U_ 99, U_ 100, U_ 101, U_ 102, U_ 103, U_ 104, U_ 105, U_ 106, U_ 107, U_ 108, U_ 109, U_ 110, U_ 111, U_ 112, U_ 113, U_ 114, U_ 115, U_ 116, U_ 117, U_ 118, U_ 119, U_ 120, U_ 121, U_ 122, U_ 123, U_ 124, U_ 125, U_ 126, U_ 127, U_ 128, U_ 129, U_ 130, U_ 131, U_ 132, U_ 133, U_ 134, U_ 135, U_ 136, U_ 137, U_ 138, U_ 139, U_ 140, U_ 141, U_ 142, U_ 143, U_ 144, U_ 145, U_ 146, U_ 147, U_ 148, U_ 149, U_ 150, U_ 151, U_ 152, U_ 153, U_ 154, U_ 155, U_ 156, U_ 157, U_ 158, U_ 159, U_ 160, U_ 161, U_ 162, U_ 163, U_ 164, U_ 165, U_ 166, U_ 167, U_ 168, U_ 169, U_ 170, U_ 171, U_ 172, U_ 173, U_ 174, U_ 175, U_ 176, U_ 177, U_ 178, U_ 179, U_ 180, U_ 181, U_ 182, U_ 183, U_ 184, U_ 185, U_ 186, U_ 187, U_ 188, U_ 189, U_ 190, U_ 191, U_ 192, U_ 193, U_ 194, U_ 195, U_ 196, U_ 197, U_ 198, U_ 199, U_ 200, U_ 201, U_ 202, U_ 203, U_ 204, U_ 205, U_ 206, U_ 207, U_ 208, U_ 209, U_ 210, U_ 211, U_ 212, U_ 213, U_ 214, U_ 215, U_ 216, U_ 217, U_ 218, U_ 219, U_ 220, U_ 221, U_ 222, U_ 223, U_ 224, U_ 225, U_ 226, U_ 227, U_ 228, U_ 229, U_ 230, U_ 231, U_ 232, U_ 233, U_ 234, U_ 235, U_ 236, U_ 237, U_ 238, U_ 239, U_ 240, U_ 241, U_ 242, U_ 243, U_ 244, U_ 245, U_ 246, U_ 247, U_ 248, U_ 249, U_ 250, U_ 251, U_ 252, U_ 253, U_ 254, U_ 255, U_ 256, U_ 257, U_ 258, U_ 259, U_ 260, U_ 261, U_ 262, U_ 263, U_ 264, U_ 265, U_ 266, U_ 267, U_ 268, U_ 269, U_ 270, U_ 271, U_ 272, U_ 273, U_ 274, U_ 275, U_ 276, U_ 277, U_ 278, U_ 279, U_ 280, U_ 281, U_ 282, U_ 283, U_ 284]) (fun U_ wr => ∃ k : Nat, k ≤ 4 ∧ U_ 17 = .int .i64 k ∧ Below w6.heap.size w6 wr) (fun U_ => 4 - (intOf (U_ 17)).toNat) (by kernel_rfl) ⟨0, Nat.zero_le _, rfl, Below.refl _ _⟩ ?_
                      intro U_ wr mmb_ hrel hmb_
                      dsimp only
                      as_aux_lemma =>
                        · skip
                          obtain ⟨k, hk, e17_, hb⟩ := hrel
                          have hkb_ : 4 - (intOf (U_ 17)).toNat = mmb_ := hmb_.out
                          rw [e17_] at hkb_
                          have HMb_ : Hid (4 - k = mmb_) := Lib.hid hkb_
                          clear hmb_ hkb_
                          rw [e17_]
                          clear e17_
                          by_cases hlt : k < 4
                          · skip
                            as_aux_lemma =>
                              have hcell : ([0, 0, 0, 0] : List Int)[k]? = some 0 := by
                                have h4 : k = 0 ∨ k = 1 ∨ k = 2 ∨ k = 3 := by omega
                                rcases h4 with rfl | rfl | rfl | rfl <;> rfl
                              have hc0 := (HG6.out.below hb).cellI hcell
                              clear hcell
                              go_wp2
                              exact LoopFr.of (by kernel_rfl) ⟨k + 1, by omega, rfl, hb⟩ (by have h := HMb_.out; show 4 - (k + 1) < mmb_; omega)
                          · skip
                            as_aux_lemma =>
                              obtain ⟨w7, hw7⟩ : ∃ w7 : World, w7 = wr := ⟨_, rfl⟩
                              subst hw7
                              have HB7 := Lib.hid (HB6.out.trans (hb.mono HB6.out.size))
                              clear hb HB6 HG6
                              go_wp2_with fail
                              refine (l_r8At A1 n1 c1 l1 0 40 w7 (hr1.below (HB5.out.trans (HB7.out.mono HB5.out.size))) hn1 (by omega) (by omega) (by omega)).mono ?_
                              rintro e w' ⟨rr, hr40, _, rfl, rfl⟩
                              obtain ⟨per, hpe⟩ : ∃ p : Int, 100 * (1 + (rr : Int)) = p := ⟨_, rfl⟩
                              have hper : 1 ≤ per ∧ per ≤ 4000 := by omega
                              as_aux_lemma =>
                                go_wp2_with fail
                                clear hpe hr40
                                refine wp_loop_U (fun U_ => [U_ 0, U_ 1, U_ 2, U_ 3, U_ 4, .slice A n c, .slice (some ⟨gN, 0, none⟩) m cN, U_ 7, U_ 8, U_ 9, .slice AB m cB, U_ 11, U_ 12, U_ 13, U_ 14, U_ 15, U_ 16, U_ 17, .int .i64 per, U_ 19, U_ 20, U_ 21, U_ 22, U_ 23, U_ 24, U_ 25, U_ 26, U_ 27, U_ 28, U_ 29, U_ 30, U_ 31, U_ 32, U_ 33, U_ 34, U_ 35, U_ 36, U_ 37, U_ 38, U_ 39, U_ 40, U_ 41, U_ 42, U_ 43, U_ 44, U_ 45, U_ 46, U_ 47, U_ 48, U_ 49, U_ 50, U_ 51, U_ 52, U_ 53, U_ 54, U_ 55, U_ 56, U_ 57, U_ 58, U_ 59, U_ 60, U_ 61, U_ 62, U_ 63, U_ 64, U_ 65, U_ 66, U_ 67, U_ 68, U_ 69, U_ 70, U_ 71, U_ 72, U_ 73, U_ 74, U_ 75, U_ 76, U_ 77, U_ 78, U_ 79, U_ 80, U_ 81, U_ 82, U_ 83, U_ 84, U_ 85, U_ 86, U_ 87, U_ 88, U_ 89, U_ 90, U_ 91, U_ 92, U_ 93, U_ 94, U_ 95, U_ 96, U_ 97, U_ 98, U_ 99, U_ 100, U_ 101, U_ 102, U_ 103, U_ 104, U_ 105, U_ 106, U_ 107, U_ 108, U_ 109, U_ 110, U_ 111, U_ 112, U_ 113, U_ 114, U_ 115, U_ 116, U_ 117, U_ 118, U_ 119, U_ 120, U_ 121, U_ 122, U_ 123, U_ 124, U_ 125, U_ 126, U_ 127, U_ 128, U_ 129, U_ 130, U_ 131, U_ 132, U_ 133, U_ 134, U_ 135, U_ 136, U_ 137, U_ 138, U_ 139, U_ 140, U_ 141, U_ 142, U_ 143, U_ 144, U_ 145, U_ 146, U_ 147, U_ 148, U_ 149, U_ 150, U_ 151, U_ 152, U_ 153, U_ 154, U_ 155, U_ 156, U_ 157, U_ 158, U_ 159, U_ 160, U_ 161, U_ 162, U_ 163, U_ 164, U_ 165, U_ 166, U_ 167, U_ 168, U_ 169, U_ 170, U_ 171, U_ 172, U_ 173, U_ 174, U_ 175, U_ 176, U_ 177, U_ 178, U_ 179, U_ 180, U_ 181, U_ 182, U_ 183, U_ 184, U_ 185, U_ 186, U_ 187, U_ 188, U_ 189, U_ 190, U_ 191, U_ 192, U_ 193, U_ 194, U_ 195, U_ 196, U_ 197, U_ 198, U_ 199, U_ 200, U_ 201, U_ 202, U_ 203, U_ 204, U_ 205, U_ 206, U_ 207, U_ 208, U_ 209, U_ 210, U_ 211, U_ 212, U_ 213, U_ 214, U_ 215, U_ 216, U_ 217, U_ 218, U_ 219, U_ 220, U_ 221, U_ 222, U_ 223, U_ 224, U_ 225, U_ 226, U_ 227, U_ 228, U_ 229, U_ 230, U_ 231, U_ 232, U_ 233, U_ 234, U_ 235, U_ 236, U_ 237, U_ 238, U_ 239, U_ 240, U_ 241, U_ 242, U_ 243, U_ 244, U_ 245, U_ 246, U_ 247, U_ 248, U_ 249, U_ 250, U_ 251, U_ 252, U_ 253, U_ 254, U_ 255, U_ 256, U_ 257, U_ 258, U_ 259, U_ 260, U_ 261, U_ 262, U_ 263, U_ 264, U_ 265, U_ 266, U_ 267, U_ 268, U_ 269, U_ 270, U_ 271, U_ 272, U_ 273, U_ 274, U_ 275, U_ 276, U_ 277, U_ 278, U_ 279, U_ 280, U_ 281, U_ 282, U_ 283, U_ 284]) (fun U_ wr => ∃ k : Nat, k ≤ m ∧ U_ 19 = .int .i64 k ∧ U_ 12 = .int .i64 (TT - sumBy (spB l) (NS.take k)) ∧ Below w7.heap.size w7 wr) (fun U_ => m - (intOf (U_ 19)).toNat) (by kernel_rfl) ⟨0, Nat.zero_le _, rfl, by show Value.int .i64 TT = .int .i64 (TT - 0); rw [Int.sub_zero], Below.refl _ _⟩ ?_
                                intro U_ wr mmc_ hrel hmc_
                                dsimp only
                                as_aux_lemma =>
                                  · skip
                                    obtain ⟨k, hk, e19_, e12_, hb⟩ := hrel
                                    have hkc_ : m - (intOf (U_ 19)).toNat = mmc_ := hmc_.out
                                    rw [e19_] at hkc_
                                    have HMc_ : Hid (m - k = mmc_) := Lib.hid hkc_
                                    clear hmc_ hkc_
                                    rw [e19_, e12_]
                                    clear e19_ e12_
                                    by_cases hlt : k < m
                                    · skip
                                      as_aux_lemma =>
                                        obtain ⟨s, hs⟩ : ∃ s, NS[k]? = some s := ⟨_, List.getElem?_eq_getElem (by have := HNL.out; omega)⟩
                                        have HSK := Lib.hid hs
                                        have hbs : Below w5.heap.size w5 wr := HB7.out.trans (hb.mono HB7.out.size)
                                        have hc0 := (HGN.out.below hbs).cellS hs
                                        have hsp := HOK.out.sp s
                                        have HD : Hid (sumBy (spB l) (NS.take (k + 1)) = sumBy (spB l) (NS.take k) + spB l s) := Lib.hid (sumBy_take hs)
                                        have hD : 0 ≤ sumBy (spB l) (NS.take k) ∧ sumBy (spB l) (NS.take k) ≤ 1000000 := by
                                          have h1 := sumBy_range (f := spB l) (M := 53100) (l := NS.take k) fun u _ => HOK.out.sp u
                                          have h2 := HOK.out.few
                                          have h3 := HNO.out.few
                                          rw [List.length_take] at h1
                                          have := HNL.out
                                          omega
                                        have KS : Hid (∀ W, Below w5.heap.size w5 W → Calls Tryz.prog 14 #[.slice A n c, .string s] W fun e w' => e = .returned (.tuple #[.int .i64 (spB l s), .int .i64 0]) ∧ Below W.heap.size W w') := Lib.hid fun W h => i_SpentBy A n c l s W (HR5.out.below h) HOK.out
                                        have KC : Hid (∀ W, Below w5.heap.size w5 W → Calls Tryz.prog 15 #[.slice A n c, .string s, .int .i64 per, .int .i64 7] W fun e w' => e = .returned (.tuple #[.int .i64 (spB l s / per * 7), .int .i64 0]) ∧ Below W.heap.size W w') := Lib.hid fun W h => i_CreditOf A n c l s per W (HR5.out.below h) HOK.out hper.1 hper.2
                                        have HC1 : Hid (cntS BS s = 1) := Lib.hid (cntS_one HBP.out HNO.out.nodup (mem_of_get hs))
                                        obtain ⟨OW, hOW⟩ : ∃ o, spB l s = o := ⟨_, rfl⟩
                                        obtain ⟨DD, hDD⟩ : ∃ o, sumBy (spB l) (NS.take k) = o := ⟨_, rfl⟩
                                        rw [hOW] at KS KC hsp HD
                                        rw [hDD] at HD hD ⊢
                                        clear hOW hDD hs
                                        go_wp2_with fail
                                        refine (KS.out _ hbs).mono ?_
                                        rintro e w8 ⟨rfl, hb8⟩
                                        have hbs8 := hbs.trans (hb8.mono hbs.size)
                                        have hbw8 := hb.trans (hb8.mono hb.size)
                                        replace hc0 := cell_later hb8 hc0
                                        clear hbs hb8 hb
                                        go_wp2_with fail
                                        refine (KC.out _ hbs8).mono ?_
                                        rintro e w9 ⟨rfl, hb9⟩
                                        have hbs9 := hbs8.trans (hb9.mono hbs8.size)
                                        have HBW9 := Lib.hid (hbw8.trans (hb9.mono hbw8.size))
                                        have q1 : IntKind.i64.wrap (TT - DD - OW) = TT - DD - OW := wid (by omega)
                                        have HD2 : Hid (TT - sumBy (spB l) (NS.take (k + 1)) = TT - DD - OW) := Lib.hid (by rw [HD.out]; omega)
                                        have HBS9 := Lib.hid hbs9
                                        clear hc0 hbs8 hb9 hbw8 KS KC hbs9
                                        as_aux_lemma =>
                                          go_wp2_with fail
                                          clear q1
                                          refine wp_loop_U (fun U_ => [U_ 0, U_ 1, U_ 2, U_ 3, U_ 4, .slice A n c, .slice (some ⟨gN, 0, none⟩) m cN, U_ 7, U_ 8, U_ 9, .slice AB m cB, U_ 11, .int .i64 (TT - DD - OW), U_ 13, U_ 14, U_ 15, U_ 16, U_ 17, .int .i64 per, .int .i64 k, .int .i64 OW, .int .i64 0, .int .i64 (OW / per * 7), .int .i64 0, U_ 24, U_ 25, U_ 26, U_ 27, U_ 28, U_ 29, U_ 30, U_ 31, U_ 32, U_ 33, U_ 34, U_ 35, U_ 36, U_ 37, U_ 38, U_ 39, U_ 40, U_ 41, U_ 42, U_ 43, U_ 44, U_ 45, U_ 46, U_ 47, U_ 48, U_ 49, U_ 50, U_ 51, U_ 52, U_ 53, U_ 54, U_ 55, U_ 56, U_ 57, U_ 58, U_ 59, U_ 60, U_ 61, U_ 62, U_ 63, U_ 64, U_ 65, U_ 66, U_ 67, U_ 68, U_ 69, U_ 70, U_ 71, U_ 72, U_ 73, U_ 74, U_ 75, U_ 76, U_ 77, U_ 78, U_ 79, U_ 80, U_ 81, U_ 82, U_ 83, U_ 84, U_ 85, U_ 86, U_ 87, U_ 88, U_ 89, U_ 90, U_ 91, U_ 92, U_ 93, U_ 94, U_ 95, U_ 96, U_ 97, U_ 98, U_ 99, U_ 100, U_ 101, U_ 102, U_ 103, U_ 104, U_ 105, U_ 106, U_ 107, U_ 108, U_ 109, U_ 110, U_ 111, U_ 112, U_ 113, U_ 114, U_ 115, U_ 116, U_ 117, U_ 118, U_ 119, U_ 120, U_ 121, U_ 122, U_ 123, U_ 124, U_ 125, U_ 126, U_ 127, U_ 128, U_ 129, U_ 130, U_ 131, U_ 132, U_ 133, U_ 134, U_ 135, U_ 136, U_ 137, U_ 138, U_ 139, U_ 140, U_ 141, U_ 142, U_ 143, U_ 144, U_ 145, U_ 146, U_ 147, U_ 148, U_ 149, U_ 150, U_ 151, U_ 152, U_ 153, U_ 154, U_ 155, U_ 156, U_ 157, U_ 158, U_ 159, U_ 160, U_ 161, U_ 162, U_ 163, U_ 164, U_ 165, U_ 166, U_ 167, U_ 168, U_ 169, U_ 170, U_ 171, U_ 172, U_ 173, U_ 174, U_ 175, U_ 176, U_ 177, U_ 178, U_ 179, U_ 180, U_ 181, U_ 182, U_ 183, U_ 184, U_ 185, U_ 186, U_ 187, U_ 188, U_ 189, U_ 190, U_ 191, U_ 192, U_ 193, U_ 194, U_ 195, U_ 196, U_ 197, U_ 198, U_ 199, U_ 200, U_ 201, U_ 202, U_ 203, U_ 204, U_ 205, U_ 206, U_ 207, U_ 208, U_ 209, U_ 210, U_ 211, U_ 212, U_ 213, U_ 214, U_ 215, U_ 216, U_ 217, U_ 218, U_ 219, U_ 220, U_ 221, U_ 222, U_ 223, U_ 224, U_ 225, U_ 226, U_ 227, U_ 228, U_ 229, U_ 230, U_ 231, U_ 232, U_ 233, U_ 234, U_ 235, U_ 236, U_ 237, U_ 238, U_ 239, U_ 240, U_ 241, U_ 242, U_ 243, U_ 244, U_ 245, U_ 246, U_ 247, U_ 248, U_ 249, U_ 250, U_ 251, U_ 252, U_ 253, U_ 254, U_ 255, U_ 256, U_ 257, U_ 258, U_ 259, U_ 260, U_ 261, U_ 262, U_ 263, U_ 264, U_ 265, U_ 266, U_ 267, U_ 268, U_ 269, U_ 270, U_ 271, U_ 272, U_ 273, U_ 274, U_ 275, U_ 276, U_ 277, U_ 278, U_ 279, U_ 280, U_ 281, U_ 282, U_ 283, U_ 284]) (fun U_ wr => ∃ t : Nat, t ≤ m ∧ U_ 25 = .int .i64 t ∧ U_ 24 = .int .i64 (cntS (BS.take t) s : Nat) ∧ Below w9.heap.size w9 wr) (fun U_ => m - (intOf (U_ 25)).toNat) (by kernel_rfl) ⟨0, Nat.zero_le _, rfl, rfl, Below.refl _ _⟩ ?_
                                          intro U_ wr mmd_ hrel hmd_
                                          dsimp only
                                          as_aux_lemma =>
                                            · skip
                                              obtain ⟨t, ht, e25_, e24_, hbi⟩ := hrel
                                              have hkd_ : m - (intOf (U_ 25)).toNat = mmd_ := hmd_.out
                                              rw [e25_] at hkd_
                                              have HMd_ : Hid (m - t = mmd_) := Lib.hid hkd_
                                              clear hmd_ hkd_
                                              rw [e25_, e24_]
                                              clear e25_ e24_
                                              have hbt : Below w5.heap.size w5 wr := HBS9.out.trans (hbi.mono HBS9.out.size)
                                              by_cases htm : t < m
                                              · skip
                                                as_aux_lemma =>
                                                  obtain ⟨u, hu⟩ : ∃ u, BS[t]? = some u := ⟨_, List.getElem?_eq_getElem (by have := HBL2.out; omega)⟩
                                                  obtain ⟨gB, hgB⟩ := HGB.out.place (by omega)
                                                  subst hgB
                                                  have hu0 := (HGB.out.below hbt).cellS hu
                                                  have hs0 := (HGN.out.below hbt).cellS HSK.out
                                                  have HT := Lib.hid (cntS_take hu s)
                                                  have hcl : cntS (BS.take t) s ≤ 100 := by
                                                    have h1 := List.length_filter_le (fun u : ByteArray => u.toList == s.toList) (BS.take t)
                                                    rw [List.length_take] at h1
                                                    unfold cntS
                                                    have := HOK.out.few
                                                    have := HNO.out.few
                                                    have := HNL.out
                                                    omega
                                                  obtain ⟨CT, hCT⟩ : ∃ q, cntS (BS.take t) s = q := ⟨_, rfl⟩
                                                  rw [hCT] at HT hcl ⊢
                                                  clear hu hCT
                                                  rcases he : (u.toList == s.toList) with _ | _
                                                  · have he2 : ¬ u.toList = s.toList := by rwa [beq_eq_false_iff_ne] at he
                                                    have HT2 : Hid (cntS (BS.take (t + 1)) s = CT) := Lib.hid (by rw [HT.out, he]; rfl)
                                                    clear HT
                                                    go_wp2_with fail
                                                    go_quiet (fail)
                                                    go_wp2
                                                    exact LoopFr.of (by kernel_rfl) ⟨t + 1, by omega, rfl, by rw [HT2.out]; rfl, below_drewN hbi _⟩ (by have h := HMd_.out; show m - (t + 1) < mmd_; omega)
                                                  · have he2 : u.toList = s.toList := eq_of_beq he
                                                    have HT2 : Hid (cntS (BS.take (t + 1)) s = CT + 1) := Lib.hid (by rw [HT.out, he]; rfl)
                                                    clear HT he2
                                                    go_wp2_with fail
                                                    go_quiet (fail)
                                                    go_wp2
                                                    exact LoopFr.of (by kernel_rfl) ⟨t + 1, by omega, rfl, by rw [HT2.out]; rfl, below_drewN hbi _⟩ (by have h := HMd_.out; show m - (t + 1) < mmd_; omega)
                                              · skip
                                                as_aux_lemma =>
                                                  obtain rfl : m = t := by omega
                                                  have e1 : cntS (BS.take m) s = 1 := by rw [List.take_of_length_le (by rw [HBL2.out]; exact Nat.le_refl _)]; exact HC1.out
                                                  rw [e1]
                                                  have hbF := HBW9.out.trans (hbi.mono HBW9.out.size)
                                                  have d0 : 0 ≤ OW / per := Int.ediv_nonneg hsp.1 (by omega)
                                                  have d1 : OW / per ≤ OW := Int.ediv_le_self _ hsp.1
                                                  have d2 : OW.tdiv per = OW / per := Int.tdiv_eq_ediv_of_nonneg hsp.1
                                                  obtain ⟨Q, hQ⟩ : ∃ Q, OW / per = Q := ⟨_, rfl⟩
                                                  rw [hQ] at d0 d1 d2 ⊢
                                                  have d3 : IntKind.i64.wrap Q = Q := wid (by omega)
                                                  have d4 : IntKind.i64.wrap (Q * 7) = Q * 7 := wid (by omega)
                                                  have d5 : (Q * 7 != Q * 7) = false := by simp
                                                  have d6 : (per == 0) = false := by rw [beq_eq_false_iff_ne]; omega
                                                  have d7 : ¬ per = 0 := by omega
                                                  clear hQ e1 htm ht hsp hD
                                                  obtain hk0 | ⟨j, hk0⟩ : k = 0 ∨ ∃ j, k = j + 1 := by cases k with
                                                    | zero => exact .inl rfl
                                                    | succ j => exact .inr ⟨j, rfl⟩
                                                  · subst hk0
                                                    as_aux_lemma =>
                                                      go_wp2_with fail
                                                      go_quiet (fail)
                                                      go_wp2
                                                      exact LoopFr.of (by kernel_rfl) ⟨0 + 1, by omega, rfl, by rw [HD2.out]; rfl, below_drewN hbF _⟩ (by have h := HMc_.out; show m - (0 + 1) < mmc_; omega)
                                                  · subst hk0
                                                    as_aux_lemma =>
                                                      obtain ⟨p, hp⟩ : ∃ p, NS[j]? = some p := ⟨_, List.getElem?_eq_getElem (by have := HNL.out; omega)⟩
                                                      have hp0 := (HGN.out.below hbt).cellS hp
                                                      have hc0 := (HGN.out.below hbt).cellS HSK.out
                                                      have hlt := less_of (show leS p s ∧ p ≠ s from pair_next HNO.out.asc hp HSK.out)
                                                      have hjw : IntKind.i64.wrap (((j + 1 : Nat) : Int) - 1) = (j : Int) := by rw [show ((j + 1 : Nat) : Int) - 1 = (j : Int) by omega]; exact wid (by omega)
                                                      have hj0 : decide ((0 : Int) < ((j + 1 : Nat) : Int)) = true := decide_eq_true (by omega)
                                                      clear hp
                                                      go_wp2_with fail
                                                      go_quiet (fail)
                                                      go_wp2
                                                      exact LoopFr.of (by kernel_rfl) ⟨j + 1 + 1, by omega, rfl, by rw [HD2.out]; rfl, below_drewN hbF _⟩ (by have h := HMc_.out; show m - ((j + 1) + 1) < mmc_; omega)
                                    · skip
                                      as_aux_lemma =>
                                        obtain rfl : m = k := by omega
                                        have e1 : TT - sumBy (spB l) (NS.take m) = 0 := by rw [List.take_of_length_le (by rw [HNL.out]; exact Nat.le_refl _), HTT.out]; omega
                                        rw [e1]
                                        obtain ⟨w8, hw8⟩ : ∃ w8 : World, w8 = wr := ⟨_, rfl⟩
                                        subst hw8
                                        have HB8 := Lib.hid (HB7.out.trans (hb.mono HB7.out.size))
                                        clear e1 hlt hk hb
                                        as_aux_lemma =>
                                          go_wp2_with fail
                                          refine wp_loop_U (fun U_ => [U_ 0, U_ 1, U_ 2, U_ 3, U_ 4, .slice A n c, U_ 6, U_ 7, U_ 8, U_ 9, .slice AB m cB, U_ 11, .int .i64 0, U_ 13, U_ 14, U_ 15, U_ 16, U_ 17, U_ 18, U_ 19, U_ 20, U_ 21, U_ 22, U_ 23, U_ 24, U_ 25, U_ 26, U_ 27, U_ 28, U_ 29, U_ 30, U_ 31, U_ 32, U_ 33, U_ 34, U_ 35, U_ 36, U_ 37, U_ 38, U_ 39, U_ 40, U_ 41, U_ 42, U_ 43, U_ 44, U_ 45, U_ 46, U_ 47, U_ 48, U_ 49, U_ 50, U_ 51, U_ 52, U_ 53, U_ 54, U_ 55, U_ 56, U_ 57, U_ 58, U_ 59, U_ 60, U_ 61, U_ 62, U_ 63, U_ 64, U_ 65, U_ 66, U_ 67, U_ 68, U_ 69, U_ 70, U_ 71, U_ 72, U_ 73, U_ 74, U_ 75, U_ 76, U_ 77, U_ 78, U_ 79, U_ 80, U_ 81, U_ 82, U_ 83, U_ 84, U_ 85, U_ 86, U_ 87, U_ 88, U_ 89, U_ 90, U_ 91, U_ 92, U_ 93, U_ 94, U_ 95, U_ 96, U_ 97, U_ 98, U_ 99, U_ 100, U_ 101, U_ 102, U_ 103, U_ 104, U_ 105, U_ 106, U_ 107, U_ 108, U_ 109, U_ 110, U_ 111, U_ 112, U_ 113, U_ 114, U_ 115, U_ 116, U_ 117, U_ 118, U_ 119, U_ 120, U_ 121, U_ 122, U_ 123, U_ 124, U_ 125, U_ 126, U_ 127, U_ 128, U_ 129, U_ 130, U_ 131, U_ 132, U_ 133, U_ 134, U_ 135, U_ 136, U_ 137, U_ 138, U_ 139, U_ 140, U_ 141, U_ 142, U_ 143, U_ 144, U_ 145, U_ 146, U_ 147, U_ 148, U_ 149, U_ 150, U_ 151, U_ 152, U_ 153, U_ 154, U_ 155, U_ 156, U_ 157, U_ 158, U_ 159, U_ 160, U_ 161, U_ 162, U_ 163, U_ 164, U_ 165, U_ 166, U_ 167, U_ 168, U_ 169, U_ 170, U_ 171, U_ 172, U_ 173, U_ 174, U_ 175, U_ 176, U_ 177, U_ 178, U_ 179, U_ 180, U_ 181, U_ 182, U_ 183, U_ 184, U_ 185, U_ 186, U_ 187, U_ 188, U_ 189, U_ 190, U_ 191, U_ 192, U_ 193, U_ 194, U_ 195, U_ 196, U_ 197, U_ 198, U_ 199, U_ 200, U_ 201, U_ 202, U_ 203, U_ 204, U_ 205, U_ 206, U_ 207, U_ 208, U_ 209, U_ 210, U_ 211, U_ 212, U_ 213, U_ 214, U_ 215, U_ 216, U_ 217, U_ 218, U_ 219, U_ 220, U_ 221, U_ 222, U_ 223, U_ 224, U_ 225, U_ 226, U_ 227, U_ 228, U_ 229, U_ 230, U_ 231, U_ 232, U_ 233, U_ 234, U_ 235, U_ 236, U_ 237, U_ 238, U_ 239, U_ 240, U_ 241, U_ 242, U_ 243, U_ 244, U_ 245, U_ 246, U_ 247, U_ 248, U_ 249, U_ 250, U_ 251, U_ 252, U_ 253, U_ 254, U_ 255, U_ 256, U_ 257, U_ 258, U_ 259, U_ 260, U_ 261, U_ 262, U_ 263, U_ 264, U_ 265, U_ 266, U_ 267, U_ 268, U_ 269, U_ 270, U_ 271, U_ 272, U_ 273, U_ 274, U_ 275, U_ 276, U_ 277, U_ 278, U_ 279, U_ 280, U_ 281, U_ 282, U_ 283, U_ 284]) (fun U_ wr => ∃ k : Nat, (k < m ∨ k = 0) ∧ U_ 26 = .int .i64 (k + 1 : Nat) ∧ Below w8.heap.size w8 wr) (fun U_ => m + 1 - (intOf (U_ 26)).toNat) (by kernel_rfl) ⟨0, .inr rfl, rfl, Below.refl _ _⟩ ?_
                                          intro U_ wr mme_ hrel hme_
                                          dsimp only
                                          as_aux_lemma =>
                                            · skip
                                              obtain ⟨k, hk, e26_, hb⟩ := hrel
                                              have hke_ : m + 1 - (intOf (U_ 26)).toNat = mme_ := hme_.out
                                              rw [e26_] at hke_
                                              have HMe_ : Hid (m + 1 - (k + 1) = mme_) := Lib.hid hke_
                                              clear hme_ hke_
                                              rw [e26_]
                                              clear e26_
                                              by_cases hlt : k + 1 < m
                                              · skip
                                                as_aux_lemma =>
                                                  obtain ⟨x, hx⟩ : ∃ x, BS[k]? = some x := ⟨_, List.getElem?_eq_getElem (by have := HBL2.out; omega)⟩
                                                  obtain ⟨y, hy⟩ : ∃ y, BS[k + 1]? = some y := ⟨_, List.getElem?_eq_getElem (by have := HBL2.out; omega)⟩
                                                  obtain ⟨gB, hgB⟩ := HGB.out.place (by omega)
                                                  subst hgB
                                                  have hbs : Below w5.heap.size w5 wr := HB8.out.trans (hb.mono HB8.out.size)
                                                  have hx0 := (HGB.out.below hbs).cellS hx
                                                  have hy0 := (HGB.out.below hbs).cellS hy
                                                  have HXY := Lib.hid (show bestR (spB l) x y from pair_next HBR.out hx hy)
                                                  have KX : Hid (∀ W, Below w5.heap.size w5 W → Calls Tryz.prog 16 #[.slice A n c, .string x] W fun e w' => e = .returned (.tuple #[.int .i64 (spB l x), .int .i64 0]) ∧ Below W.heap.size W w') := Lib.hid fun W h => s_SpentBy A n c l x W (HR5.out.below h) HOK.out
                                                  have KY : Hid (∀ W, Below w5.heap.size w5 W → Calls Tryz.prog 16 #[.slice A n c, .string y] W fun e w' => e = .returned (.tuple #[.int .i64 (spB l y), .int .i64 0]) ∧ Below W.heap.size W w') := Lib.hid fun W h => s_SpentBy A n c l y W (HR5.out.below h) HOK.out
                                                  have HXY2 : Hid (spB l y < spB l x ∨ (spB l x = spB l y ∧ leS x y ∧ x ≠ y)) := Lib.hid HXY.out
                                                  obtain ⟨sx, hsx⟩ : ∃ o, spB l x = o := ⟨_, rfl⟩
                                                  obtain ⟨sy, hsy⟩ : ∃ o, spB l y = o := ⟨_, rfl⟩
                                                  rw [hsx] at KX HXY2
                                                  rw [hsy] at KY HXY2
                                                  have hkw : IntKind.i64.wrap (((k + 1 : Nat) : Int) - 1) = (k : Int) := by rw [show ((k + 1 : Nat) : Int) - 1 = (k : Int) by omega]; exact wid (by have := HOK.out.few; have := HNO.out.few; have := HNL.out; omega)
                                                  clear hsx hsy hx hy HXY
                                                  go_wp2_with fail
                                                  refine (KX.out _ hbs).mono ?_
                                                  rintro e w9 ⟨rfl, hb9⟩
                                                  have hbs9 := hbs.trans (hb9.mono hbs.size)
                                                  have hbw9 := hb.trans (hb9.mono hb.size)
                                                  replace hx0 := cell_later hb9 hx0
                                                  replace hy0 := cell_later hb9 hy0
                                                  clear hbs hb9 hb KX
                                                  go_wp2_with fail
                                                  refine (KY.out _ hbs9).mono ?_
                                                  rintro e w10 ⟨rfl, hb10⟩
                                                  have hbF := hbw9.trans (hb10.mono hbw9.size)
                                                  replace hx0 := cell_later hb10 hx0
                                                  replace hy0 := cell_later hb10 hy0
                                                  clear hbs9 hb10 hbw9 KY
                                                  as_aux_lemma =>
                                                    rcases HXY2.out with h | ⟨h, h2⟩
                                                    · have t1 : ¬ sx < sy := by omega
                                                      have t2 : (sx == sy) = false := by rw [beq_eq_false_iff_ne]; omega
                                                      have t3 : ¬ sx = sy := by omega
                                                      have t4 : decide (sx < sy) = false := decide_eq_false t1
                                                      go_wp2_with fail
                                                      go_quiet (fail)
                                                      go_wp2
                                                      exact LoopFr.of (by kernel_rfl) ⟨k + 1, .inl (by omega), rfl, below_drewN hbF _⟩ (by have h := HMe_.out; show m + 1 - ((k + 1) + 1) < mme_; omega)
                                                    · subst h
                                                      have t1 : ¬ sx < sx := by omega
                                                      have t2 : (sx == sx) = true := by simp
                                                      have t4 : decide (sx < sx) = false := decide_eq_false t1
                                                      have hlt := less_of h2
                                                      go_wp2_with fail
                                                      go_quiet (fail)
                                                      go_wp2
                                                      exact LoopFr.of (by kernel_rfl) ⟨k + 1, .inl (by omega), rfl, below_drewN hbF _⟩ (by have h := HMe_.out; show m + 1 - ((k + 1) + 1) < mme_; omega)
                                              · skip
                                                as_aux_lemma =>
                                                  have hbF := HB5.out.trans ((HB8.out.trans (hb.mono HB8.out.size)).mono HB5.out.size)
                                                  have hge : ¬ ((k + 1 : Nat) : Int) < (m : Int) := by omega
                                                  go_wp2
                                                  go_ret
                                                  exact ⟨rfl, hbF⟩
end Go.Proofs.YtbgmhlbcohdobaaGreatDoor

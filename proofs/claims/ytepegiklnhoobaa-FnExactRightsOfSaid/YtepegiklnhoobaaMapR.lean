/- The set of rights: a map that the call makes, keyed by an object and an action; what is known of it. -/
import Derived.Test.YtepegiklnhoobaaRows
import Derived.Test.YtepegiklnhoobaaMem
import Derived.Maps.OwnSet
import Derived.DeepKeys4
namespace Go.Proofs.Ytepegiklnhoobaa
set_option linter.unusedVariables false
set_option linter.unusedSimpArgs false
set_option linter.unusedSectionVars false
open Go.RowKit Go.Maps

theorem Try.rLaid : laidOutB Try.prog = true := by kernel_rfl
theorem Try.rRow : (89 : TypeId) < Try.prog.types.size := of_decide_eq_true (by kernel_rfl)
theorem Try.rCells : Try.prog.cellsOf 89 = 2 := by kernel_rfl
set_option maxRecDepth 100000 in
theorem Try.rDeep : Try.prog.keyTypeAt (Try.prog.types.size + 1) 89 = true := by kernel_rfl
theorem Try.rWide : (match Try.prog.underlying 89 with | some (.array _ _) | some (.struct _) => true | _ => false) = true := by kernel_rfl
set_option maxRecDepth 100000 in
theorem Try.rLaw : Keyed Try.prog 89 := Keyed.of_law (deep_law_laid Try.rLaid (m := 2) (by omega) Try.rRow (by kernel_rfl) Try.rWide)
theorem Try.rStruct : ∃ fs, Try.prog.underlying 89 = some (.struct fs) := ⟨_, Try.underlying89⟩

abbrev Rt := ByteArray × Int
def rtV (p : Rt) : Value := .agg #[.string p.1, .int .i64 p.2]
def okRt (p : Rt) : Prop := p.1.size ≤ maxLen ∧ (Lit.int .i64 p.2).wf = true
noncomputable def keyRt (p : Rt) : Lit := (keyOf Try.prog 89 (rtV p)).getD (.bool false)
set_option maxRecDepth 100000 in
theorem keyRt_of {p : Rt} (h : okRt p) : keyOf Try.prog 89 (rtV p) = some (keyRt p) := by
  have hsome : ∃ l, keyOf Try.prog 89 (rtV p) = some l := by
    obtain ⟨m, hm⟩ : ∃ m, Try.prog.types.size = m + 1 := ⟨Try.prog.types.size - 1, (Nat.succ_pred_eq_of_pos (Nat.lt_of_le_of_lt (Nat.zero_le _) Try.rRow)).symm⟩
    have hk : Try.prog.keyType 89 = true := Try.rDeep
    have c1 : Try.prog.cellsOf 9 = 1 := by kernel_rfl
    have c2 : Try.prog.cellsOf 2 = 1 := by kernel_rfl
    unfold keyOf rtV
    simp only [Try.underlying89, hk, Value.formed, Try.rCells, hm]
    refine ⟨.string (keyBytes [.string p.1.data.toList, .int .i64 p.2]), ?_⟩
    rw [if_pos (by simp)]
    have e : Try.prog.keyLits (m + 1 + 1) 89 [.string p.1, .int .i64 p.2] = some [.string p.1.data.toList, .int .i64 p.2] := by
      simp [Program.keyLits, Try.underlying89, Try.underlying9, Try.underlying2, Try.rCells, c1, c2, h.1, h.2]
    have e2 : (Value.agg #[.string p.1, .int .i64 p.2]).cells.toList = [.string p.1, .int .i64 p.2] := by simp [Value.cells]
    rw [e2, e]
    rfl
  obtain ⟨l, hl⟩ := hsome
  unfold keyRt
  rw [hl]
  rfl
set_option maxRecDepth 100000 in
theorem keyRt_inj {p q : Rt} (hp : okRt p) (hq : okRt q) (h : keyRt p = keyRt q) : p = q := by
  have h1 := keyRt_of hp
  have h2 := keyRt_of hq
  rw [h] at h1
  have := Try.rLaw.inj h1 h2
  unfold rtV at this
  simp at this
  exact Prod.ext this.1 this.2
set_option maxRecDepth 100000 in
theorem keyRt_lit {p : Rt} (hp : okRt p) : WideAt.IsKeyLit (keyRt p) := Try.rLaw.key (keyRt_of hp)

/-- the map in block b holds just the rights of L, each with true -/
def RMap (w : World) (b n : Nat) (L : List Rt) : Prop := (∀ p ∈ L, okRt p) ∧ w.ownsMap Try.prog 89 (plainElem (H := Unit) Try.prog 4) b n (setOf (.lit (.bool true)) (L.map keyRt))
set_option maxRecDepth 100000 in
theorem RMap.made (w : World) : RMap (w.alloc (.map #[] 0)) w.heap.size 0 [] := ⟨(fun p h => by cases h), World.ownsMap_made _ _ _ _⟩
theorem RMap.lt {w : World} {b n : Nat} {L : List Rt} (h : RMap w b n L) : b < w.heap.size := h.2.lt
theorem RMap.below {w w' : World} {b n : Nat} {L : List Rt} (h : RMap w b n L) (hb : Below w.heap.size w w') : RMap w' b n L := by
  obtain ⟨h1, es, clock, h2, r⟩ := h
  exact ⟨h1, es, clock, (hb.block b (Array.getElem?_eq_some_iff.1 h2).1).trans h2, r⟩
theorem RMap.alloc {w : World} {b n : Nat} {L : List Rt} (h : RMap w b n L) (o : Obj) : RMap (w.alloc o) b n L := h.below ((Below.refl _ _).alloc (Nat.le_refl _) o)
theorem RMap.mono {w : World} {b n n' : Nat} {L : List Rt} (h : RMap w b n L) (hn : n ≤ n') : RMap w b n' L := ⟨h.1, h.2.mono hn⟩
set_option maxRecDepth 100000 in
theorem key_mem {L : List Rt} {p : Rt} (hL : ∀ q ∈ L, okRt q) (hp : okRt p) : ((L.map keyRt).any fun x => x.sameKey (keyRt p)) = true ↔ p ∈ L := by
  rw [List.any_eq_true]
  constructor
  · rintro ⟨x, hx, he⟩
    obtain ⟨q, hq, rfl⟩ := List.mem_map.1 hx
    have := WideAt.sameKey_eq he
    rw [keyRt_inj (hL q hq) hp this] at hq
    exact hq
  · intro h
    exact ⟨keyRt p, List.mem_map_of_mem h, WideAt.sameKey_self (keyRt_lit hp)⟩
set_option maxRecDepth 100000 in
theorem at_setOf {H : Type} (u z : DataW H) {k : Lit} : ∀ (acc : List Lit) (m : DataW H), IsMap m → (∀ x ∈ acc, WideAt.IsKeyLit x) → (k ∈ acc → (acc.foldl (fun m x => m.put x u) m).atKey k z = u) ∧ (k ∉ acc → (acc.foldl (fun m x => m.put x u) m).atKey k z = m.atKey k z)
  | [], m, _, _ => ⟨fun h => (by cases h), fun _ => rfl⟩
  | x :: r, m, hm, h => by
    obtain ⟨h1, h2⟩ := at_setOf u z (k := k) r (m.put x u) (hm.put x u) (fun y hy => h y (by simp [hy]))
    rw [List.foldl_cons]
    refine ⟨fun hk => ?_, fun hk => ?_⟩
    · by_cases hr : k ∈ r
      · exact h1 hr
      · rw [h2 hr]
        rcases List.mem_cons.1 hk with rfl | hk
        · exact atKey_put_same hm (h k (by simp)) u z
        · exact absurd hk hr
    · rw [h2 (fun hr => hk (by simp [hr])), atKey_put_other (fun e => hk (by simp [e]))]
set_option maxRecDepth 100000 in
/-- a look-up says whether the right is there -/
theorem RMap.look {w : World} {b n : Nat} {L : List Rt} {p : Rt} (h : RMap w b n L) (hp : okRt p) (r : Bool) (hr : r = true ↔ p ∈ L) : (Instr.lookup 86 (.map (some b)) (rtV p) false).run Try.prog w = .ok (.bool r) w := by
  obtain ⟨v, ps, hrun, hv⟩ := h.2.lookup Try.rLaw Try.underlying86 (z := .bool false) (by kernel_rfl) (zd := .lit (.bool false)) (zp := []) (plainElem_bool Try.underlying4 false) (keyRt_of hp)
  have hat : (setOf (H := Unit) (.lit (.bool true)) (L.map keyRt)).atKey (keyRt p) (.lit (.bool false)) = .lit (.bool r) := by
    obtain ⟨h1, h2⟩ := at_setOf (H := Unit) (.lit (.bool true)) (.lit (.bool false)) (k := keyRt p) (L.map keyRt) (.map []) isMap_empty (fun x hx => by
      obtain ⟨q, hq, rfl⟩ := List.mem_map.1 hx
      exact keyRt_lit (h.1 q hq))
    by_cases hm : p ∈ L
    · rw [hr.2 hm]
      exact h1 (List.mem_map_of_mem hm)
    · have hrf : r = false := by
        cases r
        · rfl
        · exact absurd (hr.1 rfl) hm
      rw [hrf]
      refine (h2 fun hk => ?_).trans rfl
      obtain ⟨q, hq, he⟩ := List.mem_map.1 hk
      rw [keyRt_inj (h.1 q hq) hp he] at hq
      exact hm hq
  rw [hat] at hv
  rw [hrun]
  unfold plainElem at hv
  rw [Try.underlying4] at hv
  cases v <;> simp at hv
  rw [hv.1]
set_option maxRecDepth 100000 in
theorem wpList_lookR {ops : Array Oper} {rest : List Oper} {o : Oper} {a : Act} {w : World} {Q : Exit → Act → World → Prop} (hg : o.guard = none) (m x : Operand) (hop : o.op = Op.lookup 86 m x false)
    (b n : Nat) (L : List Rt) (hm : a.eval m = .map (some b)) (h : RMap w b n L) (p : Rt) (hx : a.eval x = rtV p) (hp : okRt p) (r : Bool) (hr : r = true ↔ p ∈ L)
    (hK : wpList Try.prog ops Q rest (a.put o.dst (.bool r)) w) : wpList Try.prog ops Q (o :: rest) a w := by
  refine wpList_plain hg fun K' hK' => ?_
  unfold Oper.wp
  simp [execOp, hop, hm, hx, h.look hp r hr, Result.andThen]
  exact hK' _ _ hK
set_option maxRecDepth 100000 in
/-- 'rights[right{..}] = true' -/
theorem wpList_storeR {ops : Array Oper} {rest : List Oper} {o : Oper} {a : Act} {w : World} {Q : Exit → Act → World → Prop} (hg : o.guard = none) (m x v : Operand) (hop : o.op = Op.mapUpdate 86 m x v)
    (b n : Nat) (L : List Rt) (hm : a.eval m = .map (some b)) (h : RMap w b n L) (hn : n < maxLen) (p : Rt) (hx : a.eval x = rtV p) (hv : a.eval v = .bool true) (hp : okRt p)
    (hK : ∀ w', RMap w' b (n + 1) (L ++ [p]) → Touch (fun k => k = b) w w' → wpList Try.prog ops Q rest (a.put o.dst undef) w') : wpList Try.prog ops Q (o :: rest) a w := by
  refine wpList_mapUpdate_own w hg m x v 86 hop 89 4 Try.rLaw Try.underlying86 _ b n _ hm h.2 hn (rtV p) (.bool true) (keyRt p) hx hv (keyRt_of hp) (.lit (.bool true)) [] (plainElem_bool Try.underlying4 true) ?_
  intro w' h1 h2
  refine hK w' ⟨fun q hq => ?_, ?_⟩ ⟨h2.os, h2.tape, h2.output, h2.size, fun k hk hne => h2.block k hk fun e => hne (by cases e; rfl)⟩
  · rcases List.mem_append.1 hq with hq | hq
    · exact h.1 q hq
    · rw [List.mem_singleton.1 hq]; exact hp
  · rw [List.map_append, List.map_singleton, setOf_snoc]
    exact h1
end Go.Proofs.Ytepegiklnhoobaa

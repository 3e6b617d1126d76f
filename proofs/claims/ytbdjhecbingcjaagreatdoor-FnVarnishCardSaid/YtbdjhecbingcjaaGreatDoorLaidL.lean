/- From what a row lists to what the walks ask of the library's variables. -/
import Derived.Test.YtbdjhecbingcjaaGreatDoorRows
import Derived.Test.YtbdjhecbingcjaaGreatDoorLibW
import Derived.LaidLaws
import Derived.MakeChecks
namespace Go.Proofs.YtbdjhecbingcjaaGreatDoor
set_option linter.unusedVariables false
set_option linter.unusedSimpArgs false
set_option linter.unusedSectionVars false
open Go.RowKit

theorem laid_mem {P : Program} {w : World} : ∀ {L : List (String × DataW Unit)} {ps : List MemPlace}, DataW.LaidVars P w L ps → ∀ x ∈ L, ∃ g t cs fuel p, P.globalNamed x.1 = some g ∧ (P.globals[g]?).map (·.type) = some t ∧ w.var? P x.1 = some cs ∧ DataW.trod (fun _ => ()) P w 0 (fun _ => true) false fuel t cs.toList = some (x.2, p)
  | [], _, _, x, hx => by cases hx
  | (n, d) :: r, ps, h, x, hx => by
    obtain ⟨g, t, cs, fuel, p, q, a1, a2, a3, a4, a5, _⟩ := h
    rcases List.mem_cons.1 hx with rfl | hx
    · exact ⟨g, t, cs, fuel, p, a1, a2, a3, a4⟩
    · exact laid_mem a5 x hx
theorem err_of {P : Program} {W : World} {L : List (String × DataW Unit)} {n nm : String} {d : DataW Unit} {g : Nat} {ti : TypeId} {ms : Array (String × TypeId)} (h : laidMet P L W) (hm : (n, .iface nm d) ∈ L)
    (hg : P.globalNamed n = some g) (hty : (P.globals[g]?).map (·.type) = some ti) (hi : P.underlying ti = some (.interface ms)) : ∃ tp p, W.var? P n = some #[.iface tp p] := by
  obtain ⟨ps, hv, _⟩ := h
  obtain ⟨g', t, cs, fuel, p, a1, a2, a3, a4⟩ := laid_mem hv _ hm
  obtain rfl := Option.some.inj (hg.symm.trans a1)
  obtain rfl := Option.some.inj (hty.symm.trans a2)
  obtain ⟨_, u, v, e, _⟩ := iface_of_trod hi a4
  refine ⟨u, v, ?_⟩
  rw [a3]
  congr 1
  exact Array.toList_inj.1 e
theorem tab_of {P : Program} {W : World} {L : List (String × DataW Unit)} {n : String} {k : IntKind} {zs : List Int} {g : Nat} {t e : TypeId} {m : Nat} (h : laidMet P L W) (hm : (n, Lib.tabData k zs) ∈ L)
    (hg : P.globalNamed n = some g) (hty : (P.globals[g]?).map (·.type) = some t) (ht : P.underlying t = some (.array m e)) (he : P.underlying e = some (.int k)) (hce : P.cellsOf e = 1) (hct : P.cellsOf t = m) : Lib.TabIs P W n k zs := by
  obtain ⟨ps, hv, _⟩ := h
  obtain ⟨g', t', cs, fuel, p, a1, a2, a3, a4⟩ := laid_mem hv _ hm
  obtain rfl := Option.some.inj (hg.symm.trans a1)
  obtain rfl := Option.some.inj (hty.symm.trans a2)
  unfold Lib.TabIs
  rw [a3, ← Lib.cells_of_tab ht he hce hct a4]

theorem max_of {W : World} (h : W.ShapedOpen Tryz.prog) : MaxW W :=
  cell_of_shapedOpen_int h (of_decide_eq_true (by kernel_rfl)) (t := 3) (zero := #[.int .i64 0]) (by kernel_rfl) rfl (by kernel_rfl) (by kernel_rfl) Tryz.underlying3
theorem tabW_of {W : World} {L : List (String × DataW Unit)} (h : laidMet Tryz.prog L W) (hm : ("internal/strconv.uint64pow10", Rows.laid_internal_strconv_uint64pow10) ∈ L) : TabW W := by
  have e : (Rows.laid_internal_strconv_uint64pow10 : DataW Unit) = Lib.tabData .u64 Lib.pow10Tab := by kernel_rfl
  rw [e] at hm
  exact tab_of h hm (g := 3) (t := 125) (e := 65) (m := 20) (by kernel_rfl) (by kernel_rfl) Tryz.underlying125 Tryz.underlying65 (by kernel_rfl) (by kernel_rfl)
theorem errW_of {W : World} {L : List (String × DataW Unit)} (h : laidMet Tryz.prog L W) (h1 : ("strconv.ErrSyntax", Rows.laid_strconv_ErrSyntax) ∈ L) (h2 : ("strconv.ErrRange", Rows.laid_strconv_ErrRange) ∈ L) : ErrW W :=
  ⟨err_of h h1 (g := 1) (ti := 82) (by kernel_rfl) (by kernel_rfl) Tryz.underlying82, err_of h h2 (g := 2) (ti := 82) (by kernel_rfl) (by kernel_rfl) Tryz.underlying82⟩
end Go.Proofs.YtbdjhecbingcjaaGreatDoor

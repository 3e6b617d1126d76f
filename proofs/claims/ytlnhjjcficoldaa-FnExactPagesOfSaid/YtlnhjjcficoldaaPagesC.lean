/- slices.Chunk's contract; the program's PagesOf over it. -/
import Derived.Test.YtlnhjjcficoldaaPagesI
namespace Go.Proofs.Ytlnhjjcficoldaa
set_option linter.unusedVariables false
set_option linter.unusedSimpArgs false
set_option linter.unusedSectionVars false
open Go.RowKit Go.Shelf
attribute [local go_sem] Oper.semAt_some

set_option maxHeartbeats 1000000 in
theorem chunk_in (F : Fence) (n : Nat) (h19 : F.fn 19) (hro : F.round = none) (a : Option Addr) (len cap m : Nat) (hm1 : 1 ≤ m) (w : World) :
    CallsIn F n Try.prog 19 #[.slice a len cap, .int .i64 m] w fun e w' => e = .returned (.func (.func 25) #[] #[.pointer (some ⟨w.heap.size, 0, none⟩), .pointer (some ⟨w.heap.size + 1, 0, none⟩)]) ∧
      w' = (w.alloc (.cells #[.slice a len cap] 22)).alloc (.cells #[.int .i64 m] 3) := by
  refine callsIn_of_wp Try.func19 rfl h19 ?_ hro
  simp only [Try.ntmps19, List.size_toArray, List.length_cons, List.length_nil, Nat.reduceAdd, Nat.reduceSub, Array.replicate_succ, Array.replicate_zero, List.push_toArray, List.append_toArray, List.nil_append, List.cons_append]
  have hm0 : (1 : Int) ≤ (m : Int) := by omega
  gi_wp2
  go_ret
  exact ⟨rfl, rfl⟩

theorem grown_drew (W : World) : W.grownBy W.drew none :=
  have h := World.grownBy.refl W none
  ⟨h.os, h.tape, h.output, h.size, h.block⟩
theorem KpC.put {n₀ Bs Bm : Nat} {w : World} (hn : n₀ ≤ w.heap.size) (h1 : Bs < w.heap.size) (h2 : Bm < w.heap.size) (W : World) (l : Nat) (o o' : Obj) (hl : w.heap.size ≤ l) (h : W.heap[l]? = some o) (hc : o.isCells = false) (hk : o.isWalk = false) : KpC n₀ Bs Bm W (W.putObj l o') := by
  have hb := belowK_b (Nat.le_refl w.heap.size) W l o o' hl h hc hk
  exact ⟨hb.mono hn, hb.cell (p := ⟨Bs, 0, none⟩) h1, hb.cell (p := ⟨Bm, 0, none⟩) h2⟩

theorem chunk_stops (F : Fence) (n : Nat) (h25 : F.fn 25) (hro : F.round = none) (hn : 1 ≤ n) (Bs Bm N c m : Nat) (A : Option Addr) (ss : List ByteArray) (w0 : World) (hr : Rd strE w0 A N ss) (hN : N ≤ 200) (hm1 : 1 ≤ m) (hm2 : m ≤ 199) (hNc : N ≤ c)
    (w : World) (h1 : Bs < w.heap.size) (h2 : Bm < w.heap.size) (hBs : w.cell? ⟨Bs, 0, none⟩ = some (.slice A N c)) (hBm : w.cell? ⟨Bm, 0, none⟩ = some (.int .i64 m)) :
    SeqStopsK F n Try.prog 25 #[.pointer (some ⟨Bs, 0, none⟩), .pointer (some ⟨Bm, 0, none⟩)] (fun x : Chk w0 m => #[Value.slice x.a x.n x.n]) (KpC w0.heap.size Bs Bm)
      (fun ys => ys.map Chk.l = (List.range (pageCount m N)).map (chunkAt m ss)) (fun _ => True) N w := fun l J Jx W hW hJ _ hY h0 =>
  chunk1_in F n h25 hro hn l Bs Bm N c m A ss w0 hr hN hm1 hm2 J Jx (fun s W1 hs => hJ s W1 W1.drew none hs (grown_drew W1) (fun r e => by cases e)) hNc hY W
    ((hW.cell (p := ⟨Bs, 0, none⟩) h1).trans hBs) ((hW.cell (p := ⟨Bm, 0, none⟩) h2).trans hBm) h0
end Go.Proofs.Ytlnhjjcficoldaa

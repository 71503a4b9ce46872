import Derived.Test.Qxb6500371aGh4
import Derived.Deep.RegionWith
import Derived.Deep.Cut
set_option linter.unusedVariables false
set_option linter.unusedSimpArgs false
namespace Go.Proofs.Qxb6500371a.W
open Go.RowKit Go.Maps

def owesG (g : GS) (o : OpD) : AnsD × GS :=
  if o.kind = 1 then
    (if o.a ≠ 1 ∧ o.a ≠ 2 ∧ o.a ≠ 3 then (⟨4, 0, 0, ⟨#[]⟩⟩, g) else if 4 ≤ g.n then (⟨5, 0, 0, ⟨#[]⟩⟩, g) else if o.a ≠ 1 ∧ 0 < g.n then (⟨6, 0, 0, ⟨#[]⟩⟩, g)
      else (⟨0, 0, 0, ⟨#[]⟩⟩, { g with kind := upd g.kind g.n o.a, n := g.n + 1 }))
  else if o.kind = 2 then (⟨(gotG g g.n o.a).2.1, (gotG g g.n o.a).1, 0, ⟨#[]⟩⟩, (gotG g g.n o.a).2.2)
  else if o.kind = 3 then (⟨(laidG g g.n o.a o.b).1, 0, 0, ⟨#[]⟩⟩, (laidG g g.n o.a o.b).2)
  else if o.kind = 4 then (if (delM g.m o.a).1 = 0 then (⟨0, 0, 0, ⟨#[]⟩⟩, turnG { g with m := (delM g.m o.a).2 } 68 o.a g.n) else (⟨(delM g.m o.a).1, 0, 0, ⟨#[]⟩⟩, g))
  else if o.kind = 12 then (⟨0, 0, 0, ⟨#[]⟩⟩, { g with m := zeroM, c := { g.c with full := false } })
  else if o.kind = 5 then (⟨0, g.m.cnt, 0, ⟨#[]⟩⟩, g)
  else if o.kind = 6 then (⟨0, 0, 0, namedG g⟩, g)
  else if o.kind = 7 then (if g.n = 0 ∨ g.kind (g.n - 1) = 1 then (⟨7, 0, 0, ⟨#[]⟩⟩, g) else (⟨0, g.c.hits, 0, ⟨#[]⟩⟩, g))
  else if o.kind = 8 then (⟨0, 0, 0, ⟨#[]⟩⟩, { g with held := g.n, thn := if 0 < g.n ∧ g.kind (g.n - 1) = 1 then wrap64 (g.puts (g.n - 1) + g.dels (g.n - 1)) else 0 })
  else if o.kind = 14 then (⟨(sincedG g).2, (sincedG g).1, 0, ⟨#[]⟩⟩, g)
  else if o.kind = 9 then (if g.held < 0 then (⟨8, 0, 0, ⟨#[]⟩⟩, g) else (⟨(gotG g g.held.toNat o.a).2.1, (gotG g g.held.toNat o.a).1, 0, ⟨#[]⟩⟩, (gotG g g.held.toNat o.a).2.2))
  else if o.kind = 13 then (if g.held < 0 then (⟨8, 0, 0, ⟨#[]⟩⟩, g) else (⟨(laidG g g.held.toNat o.a o.b).1, 0, 0, ⟨#[]⟩⟩, (laidG g g.held.toNat o.a o.b).2))
  else if o.kind = 11 then (⟨0, 1, 0, ⟨#[]⟩⟩, g)
  else (⟨0, 0, 0, ⟨#[]⟩⟩, g)

theorem owes_ret {tmps : Array Value} {w3 : World} {R : Nat} {e n m : Int} {s : ByteArray} {Q : Ending → World → Prop} (hp : tmps.getD 4 undef = .pointer (some ⟨R, 0, none⟩)) (hr : w3.heap[R]? = some (.cells (ansCells e n m s) 30 (0, 0)))
    (h : Q (.returned (ansV ⟨e, n, m, s⟩)) w3) : bodyPost Try.prog Try.f46 Q Exit.ret { tmps := tmps, defers := [] } w3 :=
  bodyPost_ret (results_cell_row rfl _ _ R 30 _ (0, 0) _ hp hr Try.underlying30 rfl (by kernel_rfl)) rfl h

structure GStp (pg : Nat) (g' : GS) (w w' : World) : Prop where
  at_ : GhAt w' pg g'
  chg : Chg [pg] w w'

/-- The world at Owes's choice of the step. -/
structure Pre (W w : World) (pg : Nat) (g : GS) (o : OpD) : Prop where
  lt : pg < w.heap.size
  gh : GhAt W pg g
  op : W.heap[w.heap.size]? = some (.cells #[.int .i64 o.kind, .int .i64 o.a, .int .i64 o.b, .int .i64 o.c, .string o.s, .string o.t] 27 (0, 0))
  r : W.heap[w.heap.size + 1]? = some (.cells (ansCells 0 0 0 ⟨#[]⟩) 30 (0, 0))
  a : W.heap[w.heap.size + 1 + 1]? = some (.cells (ansCells 0 0 0 ⟨#[]⟩) 30 (0, 0))
  chg : Chg [] w W

theorem pre_doW {w : World} {pg : Nat} {g : GS} (h : GhAt w pg g) (o : OpD) : Pre (doW w o) w pg g o := by
  refine ⟨h.lt, h.chg (doW_chg _ _ []) (by simp), ?_, doW_r w o, doW_a w o, doW_chg w o []⟩
  have := heap_alloc_new w (.cells #[.int .i64 o.kind, .int .i64 o.a, .int .i64 o.b, .int .i64 o.c, .string o.s, .string o.t] 27)
  exact Chg.keep (bs := []) (((Chg.refl _ _).alloc _).alloc _) this (by simp)

/-- The answer's row at the end. -/
theorem ans_row2 {w1 : World} {R : Nat} (g0 : w1.heap[R]? = some (.cells (ansCells 0 0 0 ⟨#[]⟩) 30 (0, 0))) (e n m : Value) (s : Value) :
    ((((w1.setCell ⟨R, 0, none⟩ e).setCell ⟨R, 1, none⟩ n).setCell ⟨R, 2, none⟩ m).setCell ⟨R, 3, none⟩ s).heap[R]? = some (.cells #[e, n, m, s] 30 (0, 0)) := by
  have g1 := heap_setCell_same _ R 0 _ _ e g0
  have g2 := heap_setCell_same _ R 1 _ _ n g1
  have g3 := heap_setCell_same _ R 2 _ _ m g2
  have g4 := heap_setCell_same _ R 3 _ _ s g3
  rw [g4]
  simp

theorem ow_fin {w w2 w1 : World} {pg A R : Nat} {g' : GS} (hp : pg < w.heap.size) (hA : w.heap.size ≤ A) (hR : w.heap.size ≤ R) (hg : GhAt w2 pg g') (hc : Chg [pg] w w2) (h1 : Chg [A] w2 w1) (e n m s : Value) :
    GStp pg g' w ((((w1.setCell ⟨R, 0, none⟩ e).setCell ⟨R, 1, none⟩ n).setCell ⟨R, 2, none⟩ m).setCell ⟨R, 3, none⟩ s) := by
  have h2 := ans_chg (R := R) h1 e n m s
  refine ⟨hg.chg h2 (by simp; omega), ?_⟩
  refine ⟨h2.os.trans hc.os, h2.tape.trans hc.tape, h2.output.trans hc.output, Nat.le_trans hc.size h2.size, fun k hk hn => ?_⟩
  rw [h2.block k (Nat.lt_of_lt_of_le hk hc.size) (by simp; omega)]
  exact hc.block k hk hn

theorem Chg.cell1 {bs : List Nat} {a w : World} {q i : Nat} {v : Value} (h : Chg bs a w) (hq : q ∈ bs) : Chg bs a (w.setCell ⟨q, i, none⟩ v) := h.setCell (Or.inl hq) v

theorem Pre.drew {W w : World} {pg : Nat} {g : GS} {o : OpD} (h : Pre W w pg g o) : Pre W.drew w pg g o := ⟨h.lt, h.gh, h.op, h.r, h.a, h.chg.drew⟩

/-- The world behind a callee of Owes. -/
structure Pst (W w : World) (pg : Nat) (g : GS) : Prop where
  lt : pg < w.heap.size
  gh : GhAt W pg g
  r : W.heap[w.heap.size + 1]? = some (.cells (ansCells 0 0 0 ⟨#[]⟩) 30 (0, 0))
  a : W.heap[w.heap.size + 1 + 1]? = some (.cells (ansCells 0 0 0 ⟨#[]⟩) 30 (0, 0))
  chg : Chg [pg] w W

theorem Pre.pst {W w : World} {pg : Nat} {g : GS} {o : OpD} (h : Pre W w pg g o) : Pst W w pg g := ⟨h.lt, h.gh, h.r, h.a, h.chg.any⟩
theorem Pst.next {W w W' : World} {pg : Nat} {g g' : GS} (h : Pst W w pg g) (hg : GhAt W' pg g') (hc : Chg [pg] W W') : Pst W' w pg g' :=
  have := h.lt
  ⟨h.lt, hg, hc.keep h.r (by simp; omega), hc.keep h.a (by simp; omega), h.chg.trans hc⟩
theorem Pst.drewN {W w : World} {pg : Nat} {g : GS} (h : Pst W w pg g) (n : Nat) : Pst (W.drewN n) w pg g := ⟨h.lt, h.gh, h.r, h.a, h.chg.drewN n⟩
theorem Pst.drew {W w : World} {pg : Nat} {g : GS} (h : Pst W w pg g) : Pst W.drew w pg g := ⟨h.lt, h.gh, h.r, h.a, h.chg.drew⟩

theorem Pst.facts {W w : World} {pg : Nat} {g : GS} (h : Pst W w pg g) :
    W.cell? ⟨w.heap.size + 1 + 1, 0, none⟩ = some (.int .i64 0) ∧ W.cell? ⟨w.heap.size + 1 + 1, 1, none⟩ = some (.int .i64 0) ∧ W.cell? ⟨w.heap.size + 1 + 1, 2, none⟩ = some (.int .i64 0) ∧ W.cell? ⟨w.heap.size + 1 + 1, 3, none⟩ = some (.string ⟨#[]⟩) ∧
    W.cell? ⟨w.heap.size + 1, 0, none⟩ = some (.int .i64 0) ∧ W.cell? ⟨w.heap.size + 1, 1, none⟩ = some (.int .i64 0) ∧ W.cell? ⟨w.heap.size + 1, 2, none⟩ = some (.int .i64 0) ∧ W.cell? ⟨w.heap.size + 1, 3, none⟩ = some (.string ⟨#[]⟩) ∧
    (∀ i, W.frozen? ⟨w.heap.size + 1 + 1, i, none⟩ = false) ∧ (∀ i, W.frozen? ⟨w.heap.size + 1, i, none⟩ = false) :=
  ⟨cell_of h.a rfl, cell_of h.a rfl, cell_of h.a rfl, cell_of h.a rfl, cell_of h.r rfl, cell_of h.r rfl, cell_of h.r rfl, cell_of h.r rfl, fun _ => frozen_of h.a, fun _ => frozen_of h.r⟩

/-- The end: the answer laid, handed back. -/
theorem ow_end {tmps : Array Value} {w W w1 : World} {pg : Nat} {g' : GS} {e n m : Int} {s : ByteArray} {Q : Ending → World → Prop} (hs : Pst W w pg g') (h1 : Chg [w.heap.size + 1 + 1] W w1) (hp : tmps.getD 4 undef = .pointer (some ⟨w.heap.size + 1, 0, none⟩))
    (h : ∀ w3, GStp pg g' w w3 → Q (.returned (ansV ⟨e, n, m, s⟩)) w3) :
    bodyPost Try.prog Try.f46 Q Exit.ret { tmps := tmps, defers := [] } ((((w1.setCell ⟨w.heap.size + 1, 0, none⟩ (.int .i64 e)).setCell ⟨w.heap.size + 1, 1, none⟩ (.int .i64 n)).setCell ⟨w.heap.size + 1, 2, none⟩ (.int .i64 m)).setCell ⟨w.heap.size + 1, 3, none⟩ (.string s)) :=
  owes_ret (R := w.heap.size + 1) hp (ans_row2 (h1.keep hs.r (by simp)) _ _ _ _) (h _ (ow_fin hs.lt (by omega) (by omega) hs.gh hs.chg h1 _ _ _ _))

set_option maxHeartbeats 4000000 in
set_option maxRecDepth 4000 in
theorem ow_put {w : World} {pg : Nat} {g : GS} (h : GhAt w pg g) (hn : g.n ≤ 4) (o : OpD) (hk : o.kind = 3) :
    Calls Try.prog 46 #[pt pg, opV o] w fun x w' => x = .returned (ansV (owesG g o).1) ∧ GStp pg (owesG g o).2 w w' := by
  obtain ⟨kind, a, b, c, s, t⟩ := o
  simp only at hk
  subst hk
  have HP := pre_doW h ⟨3, a, b, c, s, t⟩
  have LC : ∀ W : World, Pre W w pg g ⟨3, a, b, c, s, t⟩ → Calls Try.prog 65 #[pt pg, .int .i64 g.n, .int .i64 a, .int .i64 b] W fun e w' => e = .returned (.int .i64 (laidG g g.n a b).1) ∧ Pst w' w pg (laidG g g.n a b).2 :=
    fun W hW => (laid_calls hW.gh g.n hn a b).mono fun e w' he => ⟨he.1, hW.pst.next he.2.1 he.2.2⟩
  unfold opV
  have hin : (0 ≤ a ∧ a < 4) ∨ a < 0 ∨ 4 ≤ a := by omega
  clear h
  go_enter Try.func46, Try.ntmps46
  rcases hin with hin | hin | hin
  all_goals
    go_upto_region 5 with fail
    change Code.wp Try.prog _ _ _ (doW w ⟨3, a, b, c, s, t⟩)
    generalize doW w ⟨3, a, b, c, s, t⟩ = W at HP ⊢
    have c8 : W.cell? ⟨pg, 8, none⟩ = some (.int .i64 g.n) := cell_of HP.gh rfl
    have o2 : W.cell? ⟨w.heap.size, 2, none⟩ = some (.int .i64 b) := cell_of HP.op rfl
    have HH : Hid (Pre W w pg g ⟨3, a, b, c, s, t⟩) := HP
    clear HP
    go_wp2_with fail
    go_region_with (go_at_call 65; refine (LC _ ?_).mono ?_; exact HH.out.drew; rintro x w2 ⟨rfl, hp2⟩; obtain ⟨a0, a1, a2, a3, r0, r1, r2, r3, fa, fr⟩ := hp2.facts)
    all_goals
      go_wp2
      exact ow_end hp2 (Chg.px (Chg.refl _ _)) rfl fun w3 h3 => ⟨rfl, h3⟩
end Go.Proofs.Qxb6500371a.W

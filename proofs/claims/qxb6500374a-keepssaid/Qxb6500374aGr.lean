import Derived.Test.Qxb6500374aTd
set_option linter.unusedVariables false
set_option linter.unusedSimpArgs false
namespace Go.Proofs.Qxb6500374a.W
open Go.RowKit Go.Maps

/-- The two new blocks of graph, rates and want: the step, the result. -/
def gW (w : World) (o : OpD) : World := (w.alloc (.cells #[.int .i64 o.kind, .int .i64 o.a, .int .i64 o.b, .int .i64 o.c, .string o.s, .string o.t] 63)).alloc (.cells (ansCells 0 0 0 ⟨#[]⟩) 65)
theorem gW_chg (w : World) (o : OpD) (bs : List Nat) : Chg bs w (gW w o) := ((Chg.refl _ _).alloc _).alloc _
theorem gW_size (w : World) (o : OpD) : (gW w o).heap.size = w.heap.size + 2 := by simp [gW]
theorem gW_op (w : World) (o : OpD) : (gW w o).heap[w.heap.size]? = some (.cells #[.int .i64 o.kind, .int .i64 o.a, .int .i64 o.b, .int .i64 o.c, .string o.s, .string o.t] 63 (0, 0)) :=
  Chg.keep (bs := []) ((Chg.refl _ _).alloc _) (heap_alloc_new w _) (by simp)
theorem gW_r (w : World) (o : OpD) : (gW w o).heap[w.heap.size + 1]? = some (.cells (ansCells 0 0 0 ⟨#[]⟩) 65 (0, 0)) := by
  have := heap_alloc_new (w.alloc (.cells #[.int .i64 o.kind, .int .i64 o.a, .int .i64 o.b, .int .i64 o.c, .string o.s, .string o.t] 63)) (.cells (ansCells 0 0 0 ⟨#[]⟩) 65)
  have e : (w.alloc (.cells #[.int .i64 o.kind, .int .i64 o.a, .int .i64 o.b, .int .i64 o.c, .string o.s, .string o.t] 63)).heap.size = w.heap.size + 1 := by simp
  rw [e] at this
  exact this
/-- What is known of a world behind the two blocks. -/
structure GW (w : World) (o : OpD) (W : World) : Prop where
  op : W.heap[w.heap.size]? = some (.cells #[.int .i64 o.kind, .int .i64 o.a, .int .i64 o.b, .int .i64 o.c, .string o.s, .string o.t] 63 (0, 0))
  res : W.heap[w.heap.size + 1]? = some (.cells (ansCells 0 0 0 ⟨#[]⟩) 65 (0, 0))
theorem gW_gw (w : World) (o : OpD) : GW w o (gW w o) := ⟨gW_op w o, gW_r w o⟩
theorem GW.chg {w W W' : World} {o : OpD} {bs : List Nat} (h : GW w o W) (hc : Chg bs W W') (hlt : ∀ x ∈ bs, x < w.heap.size) : GW w o W' :=
  ⟨hc.keep h.op (fun hx => by have := hlt _ hx; omega), hc.keep h.res (fun hx => by have := hlt _ hx; omega)⟩
theorem GW.facts {w W : World} {o : OpD} (h : GW w o W) :
    W.cell? ⟨w.heap.size, 0, none⟩ = some (.int .i64 o.kind) ∧ W.cell? ⟨w.heap.size, 1, none⟩ = some (.int .i64 o.a) ∧ W.cell? ⟨w.heap.size, 2, none⟩ = some (.int .i64 o.b) ∧
    W.cell? ⟨w.heap.size + 1, 0, none⟩ = some (.int .i64 0) ∧ W.cell? ⟨w.heap.size + 1, 1, none⟩ = some (.int .i64 0) ∧ W.cell? ⟨w.heap.size + 1, 2, none⟩ = some (.int .i64 0) ∧ W.cell? ⟨w.heap.size + 1, 3, none⟩ = some (.string ⟨#[]⟩) ∧ (∀ i, W.frozen? ⟨w.heap.size + 1, i, none⟩ = false) :=
  ⟨cell_of h.op rfl, cell_of h.op rfl, cell_of h.op rfl, cell_of h.res rfl, cell_of h.res rfl, cell_of h.res rfl, cell_of h.res rfl, fun i => frozen_of h.res⟩

theorem res_row {w2 : World} {R : Nat} (hR : w2.heap[R]? = some (.cells (ansCells 0 0 0 ⟨#[]⟩) 65 (0, 0))) (e n m s : Value) :
    ((((w2.setCell ⟨R, 0, none⟩ e).setCell ⟨R, 1, none⟩ n).setCell ⟨R, 2, none⟩ m).setCell ⟨R, 3, none⟩ s).heap[R]? = some (.cells #[e, n, m, s] 65 (0, 0)) := by
  have g1 := heap_setCell_same _ R 0 _ _ e hR
  have g2 := heap_setCell_same _ R 1 _ _ n g1
  have g3 := heap_setCell_same _ R 2 _ _ m g2
  have g4 := heap_setCell_same _ R 3 _ _ s g3
  rw [g4]
  simp
theorem res_chg (w2 : World) (R : Nat) (e n m s : Value) : Chg [R] w2 ((((w2.setCell ⟨R, 0, none⟩ e).setCell ⟨R, 1, none⟩ n).setCell ⟨R, 2, none⟩ m).setCell ⟨R, 3, none⟩ s) :=
  Chg.px (Chg.px (Chg.px (Chg.px (Chg.refl _ _))))

theorem GStp.fin {w w2 w3 : World} {o : OpD} {pg pE pH pT pK : Nat} {S S' : WS} (h : GhAt w pg pE pH pT pK S) (hs : GStp pg pE pH pT pK S' (gW w o) w2) (hc : Chg [w.heap.size + 1] w2 w3) : GStp pg pE pH pT pK S' w w3 := by
  have hlt := h.lt
  refine ⟨hs.at_.chg hc ?_, ?_⟩
  · intro x hx hm
    have := hlt x hx
    simp at hm
    omega
  · have h1 : Chg (gb pg pE pH pT pK) w w2 := (gW_chg w o _).trans hs.chg
    exact h1.andThen hc (fun x hx => by simp at hx; exact Or.inr (by omega))

def GrP (pg pE pH pT pK : Nat) (S : WS) (o : OpD) (w : World) (x : Ending) (w' : World) : Prop := x = .returned (ansV (ansD S o)) ∧ GStp pg pE pH pT pK (stepD S o 0) w w'

theorem gr_end {w w2 w3 : World} {o : OpD} {pg pE pH pT pK : Nat} {S S' : WS} {e n m : Int} {s : ByteArray} {fn : Func} (hfn : fn.results = #[.cell 4 65]) {tmps : Array Value} (hp : tmps.getD 4 undef = .pointer (some ⟨w.heap.size + 1, 0, none⟩))
    (h : GhAt w pg pE pH pT pK S) (hs : GStp pg pE pH pT pK S' (gW w o) w2) (hg : GW w o w2) (hw3 : w3 = ((((w2.setCell ⟨w.heap.size + 1, 0, none⟩ (.int .i64 e)).setCell ⟨w.heap.size + 1, 1, none⟩ (.int .i64 n)).setCell ⟨w.heap.size + 1, 2, none⟩ (.int .i64 m)).setCell ⟨w.heap.size + 1, 3, none⟩ (.string s)))
    (ha : ansD S o = ⟨e, n, m, s⟩) (hst : stepD S o 0 = S') : bodyPost Try.prog fn (GrP pg pE pH pT pK S o w) Exit.ret { tmps := tmps, defers := [] } w3 := by
  subst hw3
  refine bodyPost_ret (results_cell_row hfn _ _ (w.heap.size + 1) 65 _ (0, 0) _ hp (res_row hg.res _ _ _ _) Try.underlying65 rfl (by kernel_rfl)) rfl ⟨?_, ?_⟩
  · rw [ha]; rfl
  · rw [hst]
    exact hs.fin h (res_chg _ _ _ _ _ _)

set_option maxHeartbeats 4000000 in
set_option maxRecDepth 4000 in
theorem gr_bad {w : World} {pg pE pH pT pK : Nat} {S : WS} (h : GhAt w pg pE pH pT pK S) (o : OpD) (hk : o.kind = 1 ∨ o.kind = 2 ∨ o.kind = 3 ∨ o.kind = 4) (hn : isN o.a = false) : Calls Try.prog 56 #[pt pg, opV o] w (GrP pg pE pH pT pK S o w) := by
  have H : Hid (GhAt w pg pE pH pT pK S) := h
  have EA : Hid (ansD S o = ⟨1, 0, 0, ⟨#[]⟩⟩ ∧ stepD S o 0 = S) := by
    show _ ∧ _
    rcases hk with e | e | e | e <;> simp [ansD, stepD, e, linkS, cutS, reachS, twinsS, hn]
  obtain ⟨kind, a, b, c, s, t⟩ := o
  have HN : Hid (isN a = false) := hn
  clear h hk hn
  unfold opV
  go_enter Try.func56, Try.ntmps56
  go_wp2_with fail
  refine (isNode_calls a _).mono ?_
  rintro x w2 ⟨rfl, hw2⟩
  have hw2' : w2 = gW w ⟨kind, a, b, c, s, t⟩ := hw2
  have hgw : GW w ⟨kind, a, b, c, s, t⟩ w2 := by rw [hw2']; exact gW_gw _ _
  obtain ⟨o0, o1, o2, r0, r1, r2, r3, fr⟩ := hgw.facts
  have HG : Hid (GW w ⟨kind, a, b, c, s, t⟩ w2) := hgw
  have HC : Hid (Chg [] (gW w ⟨kind, a, b, c, s, t⟩) w2) := by show Chg _ _ _; rw [hw2']; exact Chg.refl _ _
  clear hw2 hw2' hgw
  simp only at o0 o1 o2
  rw [HN.out]
  go_wp2
  exact gr_end rfl rfl H.out (GStp.same (H.out.chg (gW_chg _ _ []) (by simp)) HC.out) HG.out rfl EA.out.1 EA.out.2
end Go.Proofs.Qxb6500374a.W

import Derived.Test.Qxb6500371aSn
set_option linter.unusedVariables false
set_option linter.unusedSimpArgs false
namespace Go.Proofs.Qxb6500371a.W
open Go.RowKit Go.Maps

theorem ba_self (x : ByteArray) : (x == x) = true := by
  obtain ⟨d⟩ := x
  first
    | (show (d == d) = true; exact beq_self_eq_true d)
    | (simp [BEq.beq, instBEqByteArray.beq]; done)
theorem eqI (d : Nat) (x : Int) (w : World) : (Op.equalIn (d + 1) 3 (.int .i64 x) (.int .i64 x)).run Try.prog w = .ok true w := by
  simp [Op.equalIn, run_underlying Try.underlying3]
theorem eqE (d : Nat) (x : Int) (w : World) : (Op.equalIn (d + 1) 28 (.int .i64 x) (.int .i64 x)).run Try.prog w = .ok true w := by
  simp [Op.equalIn, run_underlying Try.underlying28]
theorem eqS (d : Nat) (x : ByteArray) (w : World) : (Op.equalIn (d + 1) 9 (.string x) (.string x)).run Try.prog w = .ok true w := by
  simp [Op.equalIn, run_underlying Try.underlying9, ba_self]
theorem part0 (e n m : Int) (s : ByteArray) (w : World) : (part 28 (ansCells e n m s) 0).run Try.prog w = .ok (.int .i64 e) w := by kernel_rfl
theorem part1 (e n m : Int) (s : ByteArray) (w : World) : (part 3 (ansCells e n m s) 1).run Try.prog w = .ok (.int .i64 n) w := by kernel_rfl
theorem part2 (e n m : Int) (s : ByteArray) (w : World) : (part 3 (ansCells e n m s) 2).run Try.prog w = .ok (.int .i64 m) w := by kernel_rfl
theorem part3 (e n m : Int) (s : ByteArray) (w : World) : (part 9 (ansCells e n m s) 3).run Try.prog w = .ok (.string s) w := by kernel_rfl
theorem eqA (d : Nat) (e n m : Int) (s : ByteArray) (w : World) : (Op.equalIn (d + 1 + 1) 30 (.agg (ansCells e n m s)) (.agg (ansCells e n m s))).run Try.prog w = .ok true w := by
  rw [Op.equalIn]
  simp [run_underlying Try.underlying30, part0, part1, part2, part3, eqI, eqE, eqS]
theorem eq_ans (e n m : Int) (s : ByteArray) (w : World) : (binOp .eql 30 (.agg (ansCells e n m s)) (.agg (ansCells e n m s))).run Try.prog w = .ok (.bool true) w := by
  have h : (Op.equalIn Op.maxDepth 30 (.agg (ansCells e n m s)) (.agg (ansCells e n m s))).run Try.prog w = .ok true w := eqA 9998 e n m s w
  simp only [binOp, Op.equal]
  rw [Sem.run_bind, h]
  rfl

/-- The answer owed, Show's text laid in. -/
def owed (g : GS) (o : OpD) : AnsD := if o.kind = 10 then { (owesG g o).1 with s := shownG (owesG g o).2 } else (owesG g o).1

/-- What a step of Kept leaves. -/
structure KStp (px pm mp pg : Nat) (S S' : RS) (g' : GS) (w w' : World) : Prop where
  at_ : ChainAt w' px pm mp S'
  gh : GhAt w' pg g'
  chg : Chg (pg :: px :: bl pm mp S.ls) w w'
  blk : ∀ x ∈ bl pm mp S'.ls, x ∈ bl pm mp S.ls ∨ w.heap.size ≤ x

set_option maxHeartbeats 4000000 in
set_option maxRecDepth 4000 in
theorem kept_calls {w : World} {px pm mp pg : Nat} {S : RS} {g : GS} (h : ChainAt w px pm mp S) (hg : GhAt w pg g) (hap : pg ∉ px :: bl pm mp S.ls) (ho : S.ok) (hz : S.m.zero) (hky : ∀ x ∈ S.ls, x.keyed S.m) (hn : g.n ≤ 4) (hh : g.heldOk) (o : OpD) (hoo : o.ok)
    (hgo : (owesG g o).2.ok) (hso : ∀ q, (doR q S o).2.ok) (hans : ∀ q, (doR q S o).1 = owed g o) (hshow : ∀ q, showR (doR q S o).2 = shownG (owesG g o).2) :
    Calls Try.prog 40 #[pt px, pt pg, opV o] w fun x w' => x = .returned (.bool true) ∧ ∃ q, KStp px pm mp pg S (doR q S o).2 (owesG g o).2 w w' := by
  have H : Hid (ChainAt w px pm mp S) := h
  have HG : Hid (GhAt w pg g) := hg
  have HA : Hid (pg ∉ px :: bl pm mp S.ls) := hap
  have HI : Hid (S.ok ∧ S.m.zero ∧ (∀ x ∈ S.ls, x.keyed S.m) ∧ g.heldOk ∧ o.ok ∧ (owesG g o).2.ok) := ⟨ho, hz, hky, hh, hoo, hgo⟩
  have HL : Hid ((∀ q, (doR q S o).2.ok) ∧ (∀ q, (doR q S o).1 = owed g o) ∧ ∀ q, showR (doR q S o).2 = shownG (owesG g o).2) := ⟨hso, hans, hshow⟩
  have HN : Hid (g.n ≤ 4) := hn
  have HOP : Hid (o = o) := rfl
  clear h hg hap ho hz hky hn hh hoo hgo hso hans hshow HOP
  unfold opV
  go_enter Try.func40, Try.ntmps40
  go_wp2_with fail
  refine (owes_calls (w := w.alloc (.cells #[.int .i64 o.kind, .int .i64 o.a, .int .i64 o.b, .int .i64 o.c, .string o.s, .string o.t] 27)) (HG.out.chg (bs := []) ((Chg.refl _ _).alloc _) (by simp)) HN.out HI.out.2.2.2.1 o).mono ?_
  rintro x w1 ⟨rfl, hst⟩
  generalize hr : (owesG g o).1 = r
  have HR : Hid ((owesG g o).1 = r) := hr
  clear hr
  rw [ansV]
  have hgl := HG.out.lt
  have hop1 : w1.heap[w.heap.size]? = some (.cells #[.int .i64 o.kind, .int .i64 o.a, .int .i64 o.b, .int .i64 o.c, .string o.s, .string o.t] 27 (0, 0)) := hst.chg.keep (heap_alloc_new _ _) (by simp; omega)
  have hC1 : Chg (pg :: px :: bl pm mp S.ls) w w1 := ((Chg.refl _ w).alloc _).trans (hst.chg.mono (by simp))
  have hH1 : ChainAt w1 px pm mp S := (H.out.chg (bs := []) ((Chg.refl _ _).alloc _) (by simp)).chg hst.chg (by intro x hx hm; simp at hm; subst hm; exact HA.out hx)
  have HS1 : Hid (w1.heap[w.heap.size]? = some (.cells #[.int .i64 o.kind, .int .i64 o.a, .int .i64 o.b, .int .i64 o.c, .string o.s, .string o.t] 27 (0, 0)) ∧ Chg (pg :: px :: bl pm mp S.ls) w w1 ∧ ChainAt w1 px pm mp S ∧ GhAt w1 pg (owesG g o).2) := ⟨hop1, hC1, hH1, hst.at_⟩
  have HB : Hid (w.heap.size ≤ w1.heap.size) := hC1.size
  clear hgl hop1 hC1 hH1 hst
  go_wp2_with fail
  refine (shown_calls (w := w1.alloc (.cells (ansCells r.e r.n r.m r.s) 30)) (HS1.out.2.2.2.chg (bs := []) ((Chg.refl _ _).alloc _) (by simp)) HI.out.2.2.2.2.2).mono ?_
  rintro x w2 ⟨rfl, hc2⟩
  have hop2 : w2.heap[w.heap.size]? = some (.cells #[.int .i64 o.kind, .int .i64 o.a, .int .i64 o.b, .int .i64 o.c, .string o.s, .string o.t] 27 (0, 0)) := hc2.keep (Chg.keep (bs := []) ((Chg.refl _ _).alloc _) HS1.out.1 (by simp)) (by simp)
  have han2 : w2.heap[w1.heap.size]? = some (.cells (ansCells r.e r.n r.m r.s) 30 (0, 0)) := hc2.keep (heap_alloc_new _ _) (by simp)
  have o0 : w2.cell? ⟨w.heap.size, 0, none⟩ = some (.int .i64 o.kind) := cell_of hop2 rfl
  have o1 : w2.cell? ⟨w.heap.size, 1, none⟩ = some (.int .i64 o.a) := cell_of hop2 rfl
  have o2 : w2.cell? ⟨w.heap.size, 2, none⟩ = some (.int .i64 o.b) := cell_of hop2 rfl
  have o3 : w2.cell? ⟨w.heap.size, 3, none⟩ = some (.int .i64 o.c) := cell_of hop2 rfl
  have o4 : w2.cell? ⟨w.heap.size, 4, none⟩ = some (.string o.s) := cell_of hop2 rfl
  have o5 : w2.cell? ⟨w.heap.size, 5, none⟩ = some (.string o.t) := cell_of hop2 rfl
  have n3 : w2.cell? ⟨w1.heap.size, 3, none⟩ = some (.string r.s) := cell_of han2 rfl
  have nf : w2.frozen? ⟨w1.heap.size, 3, none⟩ = false := frozen_of han2
  have hne : w.heap.size ≠ w1.heap.size := by
    have := (Array.getElem?_eq_some_iff.1 HS1.out.1).1
    omega
  have hne2 : w1.heap.size ≠ w.heap.size := hne.symm
  have HA2 : Hid (w2.heap[w1.heap.size]? = some (.cells (ansCells r.e r.n r.m r.s) 30 (0, 0))) := han2
  have HC2 : Hid (Chg (pg :: px :: bl pm mp S.ls) w w2) := (HS1.out.2.1.alloc _).trans hc2.any
  have HH2 : Hid (ChainAt w2 px pm mp S) := (HS1.out.2.2.1.chg (bs := []) ((Chg.refl _ _).alloc _) (by simp)).chg hc2 (by simp)
  have HG2 : Hid (GhAt w2 pg (owesG g o).2) := (HS1.out.2.2.2.chg (bs := []) ((Chg.refl _ _).alloc _) (by simp)).chg hc2 (by simp)
  clear hop2 han2 hc2 HS1
  by_cases hk : o.kind = 10
  · have hk' : (o.kind == 10) = true := by simpa using hk
    have HKd : Hid (o.kind = 10) := hk
    clear hk
    have hW : Chg (pg :: px :: bl pm mp S.ls) w (w2.setCell ⟨w1.heap.size, 3, none⟩ (.string (shownG (owesG g o).2))) := HC2.out.setCell (Or.inr HB.out) _
    have hH : ChainAt (w2.setCell ⟨w1.heap.size, 3, none⟩ (.string (shownG (owesG g o).2))) px pm mp S := HH2.out.chg (bs := [w1.heap.size]) ((Chg.refl _ _).setCell (Or.inl (by simp)) _) (by intro x hx; have := H.out.lt x hx; have := HB.out; simp; omega)
    have hB : (w2.setCell ⟨w1.heap.size, 3, none⟩ (.string (shownG (owesG g o).2))).heap[w1.heap.size]? = some (.cells (ansCells r.e r.n r.m (shownG (owesG g o).2)) 30 (0, 0)) := by rw [heap_setCell_same _ _ 3 _ _ _ HA2.out]; simp
    have hG : GhAt (w2.setCell ⟨w1.heap.size, 3, none⟩ (.string (shownG (owesG g o).2))) pg (owesG g o).2 := HG2.out.chg (bs := [w1.heap.size]) ((Chg.refl _ _).setCell (Or.inl (by simp)) _) (by have := HG.out.lt; have := HB.out; simp; omega)
    have EO : Hid ((owed g o) = ⟨r.e, r.n, r.m, shownG (owesG g o).2⟩) := by
      show owed g o = _
      rw [owed, if_pos HKd.out, HR.out]
    have HW : Hid (Chg (pg :: px :: bl pm mp S.ls) w (w2.setCell ⟨w1.heap.size, 3, none⟩ (.string (shownG (owesG g o).2))) ∧ ChainAt (w2.setCell ⟨w1.heap.size, 3, none⟩ (.string (shownG (owesG g o).2))) px pm mp S ∧ (w2.setCell ⟨w1.heap.size, 3, none⟩ (.string (shownG (owesG g o).2))).heap[w1.heap.size]? = some (.cells (ansCells r.e r.n r.m (shownG (owesG g o).2)) 30 (0, 0)) ∧ GhAt (w2.setCell ⟨w1.heap.size, 3, none⟩ (.string (shownG (owesG g o).2))) pg (owesG g o).2) := ⟨hW, hH, hB, hG⟩
    clear hW hH hB hG
    go_wp2_with fail
    refine (do_calls (w := (w2.setCell ⟨w1.heap.size, 3, none⟩ (.string (shownG (owesG g o).2)))) HW.out.2.1 HI.out.1 HI.out.2.1 HI.out.2.2.1 o HI.out.2.2.2.2.1).mono ?_
    rintro x w3 ⟨rfl, hst3⟩
    rw [HL.out.2.1, EO.out, ansV]
    have hlt := H.out.lt
    have hgl := HG.out.lt
    have hB3 : w3.heap[w1.heap.size]? = some (.cells (ansCells r.e r.n r.m (shownG (owesG g o).2)) 30 (0, 0)) := hst3.chg.keep HW.out.2.2.1 (fun hx => by have := hlt _ hx; have := HB.out; omega)
    have hG3 : GhAt w3 pg (owesG g o).2 := HW.out.2.2.2.chg hst3.chg HA.out
    have hC3 : Chg (pg :: px :: bl pm mp S.ls) w w3 := HW.out.1.trans (hst3.chg.mono (by intro x hx; exact List.mem_cons_of_mem _ hx))
    have hK3 : KStp px pm mp pg S (doR ((w2.setCell ⟨w1.heap.size, 3, none⟩ (.string (shownG (owesG g o).2))).heap.size + 3) S o).2 (owesG g o).2 w w3 := ⟨hst3.at_, hG3, hC3, fun x hx => by
      rcases hst3.blk x hx with e | e
      · exact Or.inl e
      · exact Or.inr (Nat.le_trans HW.out.1.size e)⟩
    have hsz3 : w1.heap.size < w3.heap.size := (Array.getElem?_eq_some_iff.1 hB3).1
    have HK3 : Hid (KStp px pm mp pg S (doR ((w2.setCell ⟨w1.heap.size, 3, none⟩ (.string (shownG (owesG g o).2))).heap.size + 3) S o).2 (owesG g o).2 w w3) := hK3
    have HB3 : Hid (w3.heap[w1.heap.size]? = some (.cells (ansCells r.e r.n r.m (shownG (owesG g o).2)) 30 (0, 0))) := hB3
    have HSO : Hid ((doR ((w2.setCell ⟨w1.heap.size, 3, none⟩ (.string (shownG (owesG g o).2))).heap.size + 3) S o).2.ok ∧ showR (doR ((w2.setCell ⟨w1.heap.size, 3, none⟩ (.string (shownG (owesG g o).2))).heap.size + 3) S o).2 = shownG (owesG g o).2) := ⟨HL.out.1 _, HL.out.2.2 _⟩
    clear hlt hgl hB3 hG3 hC3 hK3 hst3
    clear o0 o1 o2 o3 o4 o5 n3 nf hk' hne hne2
    go_wp2_with fail
    refine (xshow_calls (w := w3.alloc (.cells (ansCells r.e r.n r.m (shownG (owesG g o).2)) 30)) (HK3.out.at_.chg (bs := []) ((Chg.refl _ _).alloc _) (by simp)) HSO.out.1).mono ?_
    rintro x w4 ⟨rfl, hc4⟩
    rw [HSO.out.2]
    have hb1 : w4.heap[w1.heap.size]? = some (.cells (ansCells r.e r.n r.m (shownG (owesG g o).2)) 30 (0, 0)) := hc4.keep (Chg.keep (bs := []) ((Chg.refl _ _).alloc _) HB3.out (by simp)) (by simp)
    have hb2 : w4.heap[w3.heap.size]? = some (.cells (ansCells r.e r.n r.m (shownG (owesG g o).2)) 30 (0, 0)) := hc4.keep (heap_alloc_new _ _) (by simp)
    have x0 : w4.cell? ⟨w1.heap.size, 0, none⟩ = some (.int .i64 r.e) := cell_of hb1 rfl
    have x1 : w4.cell? ⟨w1.heap.size, 1, none⟩ = some (.int .i64 r.n) := cell_of hb1 rfl
    have x2 : w4.cell? ⟨w1.heap.size, 2, none⟩ = some (.int .i64 r.m) := cell_of hb1 rfl
    have x3 : w4.cell? ⟨w1.heap.size, 3, none⟩ = some (.string (shownG (owesG g o).2)) := cell_of hb1 rfl
    have y0 : w4.cell? ⟨w3.heap.size, 0, none⟩ = some (.int .i64 r.e) := cell_of hb2 rfl
    have y1 : w4.cell? ⟨w3.heap.size, 1, none⟩ = some (.int .i64 r.n) := cell_of hb2 rfl
    have y2 : w4.cell? ⟨w3.heap.size, 2, none⟩ = some (.int .i64 r.m) := cell_of hb2 rfl
    have y3 : w4.cell? ⟨w3.heap.size, 3, none⟩ = some (.string (shownG (owesG g o).2)) := cell_of hb2 rfl
    have heq := eq_ans r.e r.n r.m (shownG (owesG g o).2) w4
    have hbs := ba_self (shownG (owesG g o).2)
    have HC4 : Hid (Chg [] w3 w4) := ((Chg.refl [] w3).alloc _).trans hc4
    clear hb1 hb2 hc4
    go_wp2
    go_ret
    refine ⟨rfl, (w2.setCell ⟨w1.heap.size, 3, none⟩ (.string (shownG (owesG g o).2))).heap.size + 3, ?_⟩
    exact ⟨HK3.out.at_.chg HC4.out (by simp), HK3.out.gh.chg HC4.out (by simp), HK3.out.chg.trans HC4.out.any, HK3.out.blk⟩
  · have hk' : (o.kind == 10) = false := by simpa using hk
    have hW : Chg (pg :: px :: bl pm mp S.ls) w w2 := HC2.out
    have hH : ChainAt w2 px pm mp S := HH2.out
    have hB : w2.heap[w1.heap.size]? = some (.cells (ansCells r.e r.n r.m r.s) 30 (0, 0)) := HA2.out
    have hG : GhAt w2 pg (owesG g o).2 := HG2.out
    have EO : Hid ((owed g o) = ⟨r.e, r.n, r.m, r.s⟩) := by
      show owed g o = _
      rw [owed, if_neg hk, HR.out]
    have HW : Hid (Chg (pg :: px :: bl pm mp S.ls) w w2 ∧ ChainAt w2 px pm mp S ∧ w2.heap[w1.heap.size]? = some (.cells (ansCells r.e r.n r.m r.s) 30 (0, 0)) ∧ GhAt w2 pg (owesG g o).2) := ⟨hW, hH, hB, hG⟩
    clear hW hH hB hG
    go_wp2_with fail
    refine (do_calls (w := w2) HW.out.2.1 HI.out.1 HI.out.2.1 HI.out.2.2.1 o HI.out.2.2.2.2.1).mono ?_
    rintro x w3 ⟨rfl, hst3⟩
    rw [HL.out.2.1, EO.out, ansV]
    have hlt := H.out.lt
    have hgl := HG.out.lt
    have hB3 : w3.heap[w1.heap.size]? = some (.cells (ansCells r.e r.n r.m r.s) 30 (0, 0)) := hst3.chg.keep HW.out.2.2.1 (fun hx => by have := hlt _ hx; have := HB.out; omega)
    have hG3 : GhAt w3 pg (owesG g o).2 := HW.out.2.2.2.chg hst3.chg HA.out
    have hC3 : Chg (pg :: px :: bl pm mp S.ls) w w3 := HW.out.1.trans (hst3.chg.mono (by intro x hx; exact List.mem_cons_of_mem _ hx))
    have hK3 : KStp px pm mp pg S (doR (w2.heap.size + 3) S o).2 (owesG g o).2 w w3 := ⟨hst3.at_, hG3, hC3, fun x hx => by
      rcases hst3.blk x hx with e | e
      · exact Or.inl e
      · exact Or.inr (Nat.le_trans HW.out.1.size e)⟩
    have hsz3 : w1.heap.size < w3.heap.size := (Array.getElem?_eq_some_iff.1 hB3).1
    have HK3 : Hid (KStp px pm mp pg S (doR (w2.heap.size + 3) S o).2 (owesG g o).2 w w3) := hK3
    have HB3 : Hid (w3.heap[w1.heap.size]? = some (.cells (ansCells r.e r.n r.m r.s) 30 (0, 0))) := hB3
    have HSO : Hid ((doR (w2.heap.size + 3) S o).2.ok ∧ showR (doR (w2.heap.size + 3) S o).2 = shownG (owesG g o).2) := ⟨HL.out.1 _, HL.out.2.2 _⟩
    clear hlt hgl hB3 hG3 hC3 hK3 hst3 hk
    clear o0 o1 o2 o3 o4 o5 n3 nf hk' hne hne2
    go_wp2_with fail
    refine (xshow_calls (w := w3.alloc (.cells (ansCells r.e r.n r.m r.s) 30)) (HK3.out.at_.chg (bs := []) ((Chg.refl _ _).alloc _) (by simp)) HSO.out.1).mono ?_
    rintro x w4 ⟨rfl, hc4⟩
    rw [HSO.out.2]
    have hb1 : w4.heap[w1.heap.size]? = some (.cells (ansCells r.e r.n r.m r.s) 30 (0, 0)) := hc4.keep (Chg.keep (bs := []) ((Chg.refl _ _).alloc _) HB3.out (by simp)) (by simp)
    have hb2 : w4.heap[w3.heap.size]? = some (.cells (ansCells r.e r.n r.m r.s) 30 (0, 0)) := hc4.keep (heap_alloc_new _ _) (by simp)
    have x0 : w4.cell? ⟨w1.heap.size, 0, none⟩ = some (.int .i64 r.e) := cell_of hb1 rfl
    have x1 : w4.cell? ⟨w1.heap.size, 1, none⟩ = some (.int .i64 r.n) := cell_of hb1 rfl
    have x2 : w4.cell? ⟨w1.heap.size, 2, none⟩ = some (.int .i64 r.m) := cell_of hb1 rfl
    have x3 : w4.cell? ⟨w1.heap.size, 3, none⟩ = some (.string r.s) := cell_of hb1 rfl
    have y0 : w4.cell? ⟨w3.heap.size, 0, none⟩ = some (.int .i64 r.e) := cell_of hb2 rfl
    have y1 : w4.cell? ⟨w3.heap.size, 1, none⟩ = some (.int .i64 r.n) := cell_of hb2 rfl
    have y2 : w4.cell? ⟨w3.heap.size, 2, none⟩ = some (.int .i64 r.m) := cell_of hb2 rfl
    have y3 : w4.cell? ⟨w3.heap.size, 3, none⟩ = some (.string r.s) := cell_of hb2 rfl
    have heq := eq_ans r.e r.n r.m r.s w4
    have hbs := ba_self (shownG (owesG g o).2)
    have HC4 : Hid (Chg [] w3 w4) := ((Chg.refl [] w3).alloc _).trans hc4
    clear hb1 hb2 hc4
    go_wp2
    go_ret
    refine ⟨rfl, w2.heap.size + 3, ?_⟩
    exact ⟨HK3.out.at_.chg HC4.out (by simp), HK3.out.gh.chg HC4.out (by simp), HK3.out.chg.trans HC4.out.any, HK3.out.blk⟩
end Go.Proofs.Qxb6500371a.W

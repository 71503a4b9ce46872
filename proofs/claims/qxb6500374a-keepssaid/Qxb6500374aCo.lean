import Derived.Test.Qxb6500374aLk
import Derived.Test.Qxb6500374aRp
set_option linter.unusedVariables false
set_option linter.unusedSimpArgs false
namespace Go.Proofs.Qxb6500374a.W
open Go.RowKit Go.Maps

theorem wpList_append_run {P : Program} {w : World} {ops : Array Oper} {rest : List Oper} {o : Oper} {a : Act} {Q : Exit → Act → World → Prop} (hgd : o.guard = none) (s x : Operand) (t : TypeId)
    (ho : o.op = .call { callee := .builtin .append, args := #[s, x], argTypes := #[t, t] }) (vs vx v' : Value) (w' : World) (hs : a.eval s = vs) (hx : a.eval x = vx)
    (hr : ∀ ty, (Builtin.append_ #[t, t] ty #[vs, vx]).run P w = .ok v' w') (h : wpList P ops Q rest (a.put o.dst v') w') : wpList P ops Q (o :: rest) a w := by
  refine wpList_plain hgd fun _ hK => ?_
  unfold Oper.wp execOp
  simp only [ho, resolve, invoke, builtin, Sem.run_bind, Sem.run_pure, Result.andThen_ok, List.map_toArray, List.map_cons, List.map_nil, hs, hx, hr]
  exact hK _ _ h

/-- Keys are being collected off a set. -/
structure Col (w wr : World) (ps it : Nat) (es : Array MapEntry) (c : Nat) (f : MapEntry → Nat) (L : List MapEntry) (st pl cap : Nat) : Prop where
  map : wr.heap[ps]? = some (.map es c)
  itr : wr.heap[it]? = some (.mapIter (some ps) c (L.map (·.born)).toArray st)
  sub : ∀ e ∈ L, e ∈ es.toList
  one : (L.map (·.born)).Nodup
  row : RowAt wr pl (L.map f) cap
  le : c ≤ st
  new : w.heap.size ≤ pl ∧ pl ≠ it ∧ pl ≠ ps
  chg : Chg [] w wr

theorem Col.len {w wr : World} {ps it : Nat} {es : Array MapEntry} {c : Nat} {f : MapEntry → Nat} {L : List MapEntry} {st pl cap : Nat} (h : Col w wr ps it es c f L st pl cap) : L.length ≤ es.size := by
  have := nodup_sub_length (l := L.map (·.born)) (m := es.toList.map (·.born)) h.one (fun b hb => by
    obtain ⟨e, he, rfl⟩ := List.mem_map.1 hb
    exact List.mem_map_of_mem (h.sub e he))
  simpa using this

/-- All have come: the list holds each key once. -/
theorem Col.fin {w wr : World} {ps it : Nat} {es : Array MapEntry} {c : Nat} {f : MapEntry → Nat} {L : List MapEntry} {st pl cap : Nat} (h : Col w wr ps it es c f L st pl cap) (he : Ent es c) (hall : ∀ e ∈ es.toList, e.born < c → e.born ∈ (L.map (·.born)).toArray) :
    ∀ e, e ∈ L ↔ e ∈ es.toList := by
  intro e
  refine ⟨h.sub e, fun hm => ?_⟩
  have := hall e hm (he.born e hm)
  simp at this
  obtain ⟨e', he', hb⟩ := this
  rw [he.stamp_inj hm (h.sub e' he') hb.symm]
  exact he'

theorem map_nodup {α : Type} {L : List α} {f : α → Nat} {g : α → Nat} (h1 : (L.map g).Nodup) (hinj : ∀ x ∈ L, ∀ y ∈ L, f x = f y → g x = g y) : (L.map f).Nodup := by
  induction L with
  | nil => simp
  | cons a r ih =>
    rw [List.map_cons, List.nodup_cons] at h1 ⊢
    refine ⟨fun hm => ?_, ih h1.2 (fun x hx y hy => hinj x (by simp [hx]) y (by simp [hy]))⟩
    obtain ⟨b, hb, e⟩ := List.mem_map.1 hm
    exact h1.1 (by rw [hinj a (by simp) b (by simp [hb]) e.symm]; exact List.mem_map_of_mem hb)

/-- One more. -/
theorem Col.push {w wr w' w2 : World} {ps it : Nat} {es : Array MapEntry} {c : Nat} {f : MapEntry → Nat} {L : List MapEntry} {st pl cap pl' cap' : Nat} (h : Col w wr ps it es c f L st pl cap) {e : MapEntry} (he : e ∈ es.toList) (hn : e.born ∉ (L.map (·.born)).toArray)
    (hit : w'.heap[it]? = some (.mapIter (some ps) c ((L.map (·.born)).toArray.push e.born) c)) (hmap : w'.heap[ps]? = some (.map es c)) (hch : Chg [it] wr w') (hnew : w.heap.size ≤ it) (ob : Obj) (hrow : RowAt w2 pl' (L.map f ++ [f e]) cap') (hc2 : Chg [pl] (w'.alloc ob) w2) (hpl : pl' ∈ [pl] ∨ (w'.alloc ob).heap.size ≤ pl') :
    Col w w2 ps it es c f (L ++ [e]) c pl' cap' := by
  have hn' := h.new
  have ha : Chg [] w' (w'.alloc ob) := (Chg.refl _ _).alloc _
  refine ⟨hc2.keep (ha.keep hmap (by simp)) (by simp; omega), ?_, ?_, ?_, by rw [List.map_append]; exact hrow, Nat.le_refl _, ?_, ?_⟩
  · have := hc2.keep (ha.keep hit (by simp)) (by simp; omega)
    rw [this]
    simp
  · intro x hx
    rcases List.mem_append.1 hx with hx | hx
    · exact h.sub x hx
    · simp at hx; rw [hx]; exact he
  · rw [List.map_append, List.nodup_append]
    refine ⟨h.one, by simp, ?_⟩
    intro a ha b hb
    simp at hb
    subst hb
    intro e1
    subst e1
    exact hn (by simpa using ha)
  · rcases hpl with e1 | e1
    · simp at e1; rw [e1]; exact hn'
    · have h1 := lt_of hit
      have h2 := lt_of hmap
      have h3 := ha.size
      have h4 := (h.chg.size)
      have h5 := hch.size
      exact ⟨by omega, by omega, by omega⟩
  · refine (h.chg.andThen hch (by intro x hx; simp at hx; omega)).andThen (ha.any.trans hc2) (by intro x hx; simp at hx; omega)

theorem make8 (w1 : World) : ∃ w2, (Instr.makeSlice 44 (.int .i64 0) (.int .i64 8)).run Try.prog w1 = .ok (.slice (some ⟨w1.heap.size, 0, none⟩) 0 8) w2 ∧ RowAt w2 w1.heap.size [] 8 ∧ Chg [] w1 w2 := by
  obtain ⟨i, hi, hz0, hz1, hz2⟩ := info_parts info3
  obtain ⟨w2, h1, h2, h3⟩ := run_make_own (P := Try.prog) w1 0 44 3 i _ 1 Try.underlying44 hi hz0 hz1 .i64 .i64 8 (by rw [hz2]; decide) (by decide) (Nat.zero_le _)
  exact ⟨w2, h1, own_row (l := []) h2, Chg.grown h3⟩

def lenOf : Value → Int | .slice _ n _ => n | _ => 0

/-- Reach, plainly; r: the rounds. -/
def reachS (S : WS) (s : Int) (r : Nat) : Int × ByteArray × Int × WS := if isN s = true then ((rlist S.A s.toNat).length, joinS (rlist S.A s.toNat), 0, { S with rd := r }) else (0, ⟨#[]⟩, 1, S)

theorem WAt.rounds {w w' : World} {px pa ph : Nat} {B C : Nat → Nat} {S : WS} (h : WAt w px pa ph B C S) (hA : AOk S.A) {r : Int} (hx : w'.heap[px]? = some (.cells (workCells pa ph r false) 42 (0, 0))) (hc : Chg [px] w w') : WAt w' px pa ph B C { S with rd := r } := by
  have h1 := h.ap1
  simp only [List.mem_cons, not_or] at h1
  refine ⟨hx, h.adj.chg hA hc (fun y hy hm => ?_), h.hist.chg hc (by simp; exact fun e => h1.2.1 e.symm), h.ap1, h.ap2⟩
  simp at hm
  subst hm
  rcases List.mem_cons.1 hy with e | e
  · exact h1.1 e
  · exact h1.2.2 e

theorem itoa_small {A : Nat → List Nat} {s : Nat} : (rlist A s).length < 100 ∧ ∀ x ∈ rlist A s, x < 100 := by
  constructor
  · have := List.length_filter_le (rchB A s) (List.range 8)
    simp at this
    unfold rlist
    omega
  · intro x hx
    have := List.mem_range.1 (List.mem_filter.1 hx).1
    omega

/-- What Reach leaves. -/
def ReachP (px pa ph : Nat) (B C : Nat → Nat) (S : WS) (s : Int) (w : World) (x : Ending) (w' : World) : Prop :=
  ∃ r : Nat, (isN s = true → RB S.A s.toNat r) ∧ x = .returned (.tuple #[.int .i64 (reachS S s r).1, .string (reachS S s r).2.1, .int .i64 (reachS S s r).2.2.1]) ∧ WStp px pa ph B C S (reachS S s r).2.2.2 w w'

set_option maxHeartbeats 4000000 in
set_option maxRecDepth 4000 in
theorem xreach_calls {w : World} {px pa ph : Nat} {B C : Nat → Nat} {S : WS} (h : WAt w px pa ph B C S) (ho : S.ok) (s : Int) :
    Calls Try.prog 23 #[pt px, .int .i64 s] w (ReachP px pa ph B C S s w) := by
  have H : Hid (WAt w px pa ph B C S) := h
  have HO : Hid S.ok := ho
  cases hs : isN s with
  | false =>
    have HF : Hid (isN s = false) := hs
    have HP : Hid (ReachP px pa ph B C S s w (.returned (.tuple #[.int .i64 0, .string ⟨#[]⟩, .int .i64 1])) w) := by
      refine ⟨0, by simp [hs], ?_, ?_⟩
      · simp [reachS, hs]
      · simp [reachS, hs]
        exact WStp.same h ho.aok (Chg.refl _ _)
    clear h ho hs
    go_enter Try.func23, Try.ntmps23
    go_wp2_with fail
    refine (node_calls s w).mono ?_
    rintro x w2 ⟨rfl, hw2⟩
    obtain rfl : w = w2 := hw2.symm
    clear hw2
    rw [show (decide (0 ≤ s) && decide (s < 8)) = false from HF.out]
    go_wp2
    go_ret3
    exact HP.out
  | true =>
    have HF : Hid (isN s = true) := hs
    obtain ⟨k, hk, rfl⟩ := isN_iff.1 hs
    clear hs h ho
    go_enter Try.func23, Try.ntmps23
    go_wp2_with fail
    refine (node_calls k w).mono ?_
    rintro x w2 ⟨rfl, hw2⟩
    obtain rfl : w = w2 := hw2.symm
    clear hw2
    rw [show (decide (0 ≤ (k : Int)) && decide ((k : Int) < 8)) = true from HF.out]
    go_wp2_with fail
    refine (reach_calls H.out.row HO.out.aok H.out.adj (by have := H.out.ap1; simp only [List.mem_cons, not_or] at this ⊢; exact ⟨this.1, this.2.2⟩) hk).mono ?_
    rintro x w1 ⟨ps, es, c, r, rfl, hps, hmap, hok, hkeys, hrow, hrb, hch⟩
    have HR : Hid (w.heap.size ≤ ps ∧ w1.heap[ps]? = some (.map es c) ∧ SetOk es c ∧ (∀ k', k' ∈ keys es ↔ Rch S.A k k') ∧ w1.heap[px]? = some (.cells (workCells pa ph r false) 42 (0, 0)) ∧ RB S.A k r ∧ Chg [px] w w1) := ⟨hps, hmap, hok, hkeys, hrow, hrb, hch⟩
    obtain ⟨w2, hmk, hrow2, hch2⟩ := make8 w1
    have hmap2 : w2.heap[ps]? = some (.map es c) := hch2.keep hmap (by simp)
    have hrange := run_range_map (P := Try.prog) w2 46 3 4 ps es c Try.underlying46 hmap2
    have hC0 : Col w1 (w2.alloc (.mapIter (some ps) c #[] c)) ps w2.heap.size es c kn [] c w1.heap.size 8 := by
      have ha : Chg [] w2 (w2.alloc (.mapIter (some ps) c #[] c)) := (Chg.refl _ _).alloc _
      have h1 := lt_of hmap
      have h2 := hrow2.lt
      exact ⟨ha.keep hmap2 (by simp), heap_alloc_new _ _, by simp, by simp, hrow2.chg ha (by simp), Nat.le_refl _, ⟨Nat.le_refl _, by omega, by omega⟩, hch2.trans ha⟩
    have HC0 : Hid (Col w1 (w2.alloc (.mapIter (some ps) c #[] c)) ps w2.heap.size es c kn [] c w1.heap.size 8) := hC0
    have HSZ : Hid (w1.heap.size ≤ w2.heap.size ∧ ps < w1.heap.size) := ⟨hch2.size, lt_of hmap⟩
    have hes8 := hok.size
    clear hps hmap hok hkeys hrow hrb hch hmap2 hC0 hrow2 hch2
    go_wp2_with fail
    go_loopw [8, 9] (fun v8 _ wr => ∃ (L : List MapEntry) (st pl cap : Nat), v8 = .slice (some ⟨pl, 0, none⟩) L.length cap ∧ Col w1 wr ps w2.heap.size es c kn L st pl cap) (fun v8 _ _ => (8 - lenOf v8).toNat)
    case atStart => exact ⟨[], c, w1.heap.size, 8, rfl, HC0.out⟩
    case round =>
      obtain ⟨L, st, pl, cap, rfl, hcol⟩ := hrel
      rename World => wI
      have hlen := hcol.len
      have hold : (L.map (·.born)).toArray.size = 0 ∨ es.size = 0 ∨ ∃ e ∈ es.toList, e.born < st := by
        rcases Nat.eq_zero_or_pos es.size with h0 | h0
        · exact Or.inr (Or.inl h0)
        · refine Or.inr (Or.inr ⟨es[0], by simp, ?_⟩)
          exact Nat.lt_of_lt_of_le (HR.out.2.2.1.ent.born es[0] (by simp)) hcol.le
      rcases run_next_any wI w2.heap.size ps c st _ es c hcol.itr hcol.map (by have := HSZ.out; omega) hold with ⟨hall, w', hw', hrun⟩ | ⟨e, he, hns, w', hrun, hit', hmap', hch', hsz'⟩
      · have hcol' : Col w1 w' ps w2.heap.size es c kn L st pl cap := by
          rcases hw' with rfl | rfl
          · exact hcol
          · exact ⟨hcol.map, hcol.itr, hcol.sub, hcol.one, hcol.row, hcol.le, hcol.new, hcol.chg.drew⟩
        have hfin := hcol'.fin HR.out.2.2.1.ent hall
        have hnd : (L.map kn).Nodup := map_nodup hcol'.one (fun x hx y hy hxy => by
          have h1 := hcol'.sub x hx
          have h2 := hcol'.sub y hy
          have : x = y := by
            have hn := HR.out.2.2.1.ent.one
            generalize es.toList = l at hn h1 h2
            induction l with
            | nil => cases h1
            | cons a t ih =>
              rw [List.map_cons, List.nodup_cons] at hn
              rcases List.mem_cons.1 h1 with e1 | e1
              · rcases List.mem_cons.1 h2 with e2 | e2
                · rw [e1, e2]
                · exact absurd (by rw [← e1, hxy]; exact List.mem_map_of_mem e2) hn.1
              · rcases List.mem_cons.1 h2 with e2 | e2
                · exact absurd (by rw [← e2, ← hxy]; exact List.mem_map_of_mem e1) hn.1
                · exact ih hn.2 e1 e2
          rw [this])
        have hmem : ∀ x, x ∈ L.map kn ↔ x ∈ rlist S.A k := by
          intro x
          rw [mem_rlist HO.out.aok hk, ← HR.out.2.2.2.1 x]
          unfold keys
          constructor
          · intro hx
            obtain ⟨e, he, rfl⟩ := List.mem_map.1 hx
            exact List.mem_map_of_mem ((hfin e).1 he)
          · intro hx
            obtain ⟨e, he, rfl⟩ := List.mem_map.1 hx
            exact List.mem_map_of_mem ((hfin e).2 he)
        have hes : es.size = (rlist S.A k).length := by
          have h1 := nodup_sub_length (l := keys es) (m := rlist S.A k) HR.out.2.2.1.ent.one (fun x hx => (mem_rlist HO.out.aok hk).2 ((HR.out.2.2.2.1 x).1 hx))
          have h2 := nodup_sub_length (l := rlist S.A k) (m := keys es) ((rlist_strict S.A k).imp (fun hab => by omega)) (fun x hx => (HR.out.2.2.2.1 x).2 ((mem_rlist HO.out.aok hk).1 hx))
          simp [keys] at h1 h2
          omega
        have hL : (L.map kn).length = L.length := by simp
        have HCOL : Hid (Col w1 w' ps w2.heap.size es c kn L st pl cap) := hcol'
        have HES : Hid (es.size = (rlist S.A k).length) := hes
        have HSO : Hid ((L.map kn).length < 100 ∧ (L.map kn).Nodup ∧ ∀ x, x ∈ L.map kn ↔ x ∈ rlist S.A k) := ⟨by rw [hL]; omega, hnd, hmem⟩
        have hlenR := fun ty => run_len (kt := 3) (el := 4) hcol'.map Try.underlying46 ty
        have HLL : Hid ((L.map kn).length = L.length) := hL
        clear hcol hcol' hfin hnd hmem hes hL hold hw' hall
        go_wp2_with fail
        have hsr := sortedR_calls (cap := cap) HCOL.out.row HSO.out.1 HSO.out.2.1 (rlist_strict S.A k) HSO.out.2.2
        rw [HLL.out] at hsr
        refine hsr.mono ?_
        rintro x w3 ⟨rfl, hrow3, hch3⟩
        have HLR : Hid (L.length = (rlist S.A k).length) := by
          have h1 := nodup_sub_length HSO.out.2.1 (fun x hx => (HSO.out.2.2 x).1 hx)
          have h2 := nodup_sub_length (l := rlist S.A k) ((rlist_strict S.A k).imp (fun hab => by omega)) (fun x hx => (HSO.out.2.2 x).2 hx)
          show L.length = _
          rw [HLL.out] at h1 h2
          omega
        have HR3 : Hid (RowAt w3 pl (rlist S.A k) cap ∧ Chg [pl] w' w3) := ⟨hrow3, hch3⟩
        clear hsr hrow3 hch3
        rw [HLR.out]
        go_wp2_with fail
        refine (join_calls (l := rlist S.A k) (Or.inr ⟨pl, rfl, HR3.out.1⟩) itoa_small.1 itoa_small.2).mono ?_
        rintro x w4 ⟨rfl, hc4⟩
        have HP : Hid (ReachP px pa ph B C S k w (.returned (.tuple #[.int .i64 (rlist S.A k).length, .string (joinS (rlist S.A k)), .int .i64 0])) w4) := by
          obtain ⟨r1, r2, r3, r4, r5, r6, r7⟩ := HR.out
          have hcw : Chg [] w1 w4 := (HCOL.out.chg.andThen HR3.out.2 (by intro x hx; simp at hx; have := HCOL.out.new.1; omega)).trans hc4
          have hx4 : w4.heap[px]? = some (.cells (workCells pa ph r false) 42 (0, 0)) := hcw.keep r5 (by simp)
          have hcx : Chg [px] w w4 := r7.trans hcw.any
          refine ⟨r, fun _ => by simpa using r6, ?_, ?_⟩
          · simp [reachS, HF.out]
          · simp only [reachS, HF.out, if_true]
            exact ⟨⟨B, C, H.out.rounds HO.out.aok hx4 hcx, fun x hx => Or.inl hx⟩, hcx.mono (by simp [wb])⟩
        clear hc4 hlenR
        rw [HES.out]
        go_wp2
        go_ret3
        exact HP.out
      · have hke := (HR.out.2.2.1.ent.key e he).1
        have hk8 := (HR.out.2.2.1.ent.key e he).2
        have hen := run_entry_at (P := Try.prog) w' w2.heap.size ps c _ es c e hit' hmap' he HR.out.2.2.1.ent.stamp
        rw [hke, HR.out.2.2.1.val e he] at hen hrun
        have hnw := hcol.new
        have hrowA : RowAt (w'.alloc (.cells #[.int .i64 (kn e : Nat)] 3)) pl (L.map kn) cap := (hcol.row.chg hch' (by simp; omega)).chg (bs := []) ((Chg.refl _ _).alloc _) (by simp)
        obtain ⟨pl', cap', w3, hrunA, hrow3, hch3, hpl3⟩ := append_row (w := w'.alloc (.cells #[.int .i64 (kn e : Nat)] 3)) (lp := some ⟨pl, 0, none⟩) (l := L.map kn) (news := [kn e]) (Bk := w'.heap.size) (o := 0) (c := 1) (Or.inr ⟨pl, rfl, hrowA⟩) (by simp) (by simp; omega) (by
          intro j hj
          simp at hj
          subst hj
          exact cell_of (heap_alloc_new _ _) rfl)
        simp only [List.length_map, List.length_singleton] at hrunA
        have hC2 : Col w1 w3 ps w2.heap.size es c kn (L ++ [e]) c pl' cap' := hcol.push he hns hit' hmap' hch' HSZ.out.1 _ hrow3 (by simpa [ownB] using hch3) (by simpa [ownB] using hpl3)
        have HC2 : Hid (Col w1 w3 ps w2.heap.size es c kn (L ++ [e]) c pl' cap') := hC2
        have hl2 := hC2.len
        simp at hl2
        clear hcol hold hke he hns hit' hmap' hch' hsz' hrowA hrow3 hch3 hpl3 hC2 hnw
        generalize kn e = ke at *
        go_wp2_with (at_builtin; refine wpList_append_run rfl _ _ _ rfl _ _ _ _ rfl rfl hrunA ?_)
        all_goals (try go_wp2)
        exact ⟨⟨L ++ [e], c, pl', cap', by simp, HC2.out⟩, by simp [lenOf]; omega⟩
end Go.Proofs.Qxb6500374a.W

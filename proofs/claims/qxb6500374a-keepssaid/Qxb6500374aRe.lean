import Derived.Test.Qxb6500374aSet
set_option linter.unusedVariables false
set_option linter.unusedSimpArgs false
namespace Go.Proofs.Qxb6500374a.W
open Go.RowKit Go.Maps

theorem AdjAt.look' {w : World} {pa : Nat} {A : Nat → List Nat} {B C : Nat → Nat} (h : AdjAt w pa A B C) (k : Nat) (hk : k < 8) :
    ∃ lp cap, (Instr.lookup 39 (.map (some pa)) (.int .i64 k) false).run Try.prog w = .ok (.slice lp (A k).length cap) w ∧ ((A k = [] ∧ lp = none ∧ cap = 0) ∨ (A k ≠ [] ∧ lp = some ⟨B k, 0, none⟩ ∧ cap = C k ∧ RowAt w (B k) (A k) (C k))) := by
  have hl := h.look k hk
  by_cases e : A k = []
  · rw [lookV, if_pos e] at hl
    exact ⟨none, 0, by rw [hl, e]; rfl, Or.inl ⟨e, rfl, rfl⟩⟩
  · rw [lookV, if_neg e] at hl
    exact ⟨some ⟨B k, 0, none⟩, C k, hl, Or.inr ⟨e, rfl, rfl, h.row k e⟩⟩

/-- The bounds of the number of rounds. -/
structure RB (A : Nat → List Nat) (s r : Nat) : Prop where
  lo : 1 ≤ r
  le : r ≤ 8
  hi : ∀ d, (∀ k, Rch A s k → Ball A s d k) → r ≤ d + 1
  two : (∃ k, k ≠ s ∧ Rch A s k) → 2 ≤ r

structure Out (w wr : World) (px pa ph ps : Nat) (A : Nat → List Nat) (s : Nat) (odd : Bool) (r : Nat) (es : Array MapEntry) (clock : Nat) : Prop where
  map : wr.heap[ps]? = some (.map es clock)
  ok : SetOk es clock
  sub : ∀ k ∈ keys es, Rch A s k
  src : s ∈ keys es
  ball : ∀ k, Ball A s r k → k ∈ keys es
  row : wr.heap[px]? = some (.cells (workCells pa ph r odd) 42 (0, 0))
  lo : r < es.size
  first : r = 0 → es.size ≤ 1
  hi : ∀ d, (∀ k, Rch A s k → Ball A s d k) → r ≤ d
  chg : Chg [px] w wr

structure Inn (w wr : World) (px pa ph ps it : Nat) (A : Nat → List Nat) (s : Nat) (odd : Bool) (r : Nat) (es0 : Array MapEntry) (c0 : Nat) (es : Array MapEntry) (clock : Nat) (seen : Array Nat) (st : Nat) : Prop where
  map : wr.heap[ps]? = some (.map es clock)
  it : wr.heap[it]? = some (.mapIter (some ps) c0 seen st)
  ok : SetOk es clock
  grow : Grow es0 c0 es clock
  le : c0 ≤ st
  one : seen.toList.Nodup
  sub : ∀ b ∈ seen.toList, ∃ e ∈ es.toList, e.born = b
  done : ∀ e ∈ es.toList, e.born ∈ seen → ∀ m ∈ A (kn e), m ∈ keys es
  rch : ∀ k ∈ keys es, Rch A s k
  row : wr.heap[px]? = some (.cells (workCells pa ph (r + 1 : Nat) odd) 42 (0, 0))
  chg : Chg [px] w wr

/-- A stamp belongs to one entry. -/
theorem Ent.stamp_inj {es : Array MapEntry} {c : Nat} (h : Ent es c) {e e' : MapEntry} (he : e ∈ es.toList) (he' : e' ∈ es.toList) (hb : e.born = e'.born) : e = e' := by
  have := h.stamp
  generalize es.toList = l at this he he'
  induction l with
  | nil => cases he
  | cons a t ih =>
    rw [List.map_cons, List.nodup_cons] at this
    rcases List.mem_cons.1 he with h1 | h1
    · rcases List.mem_cons.1 he' with h2 | h2
      · rw [h1, h2]
      · exact absurd (by rw [← h1, hb]; exact List.mem_map_of_mem h2) this.1
    · rcases List.mem_cons.1 he' with h2 | h2
      · exact absurd (by rw [← h2, ← hb]; exact List.mem_map_of_mem h1) this.1
      · exact ih this.2 h1 h2

theorem Inn.asked {w wr : World} {px pa ph ps it : Nat} {A : Nat → List Nat} {s : Nat} {odd : Bool} {r : Nat} {es0 : Array MapEntry} {c0 : Nat} {es : Array MapEntry} {clock : Nat} {seen : Array Nat} {st : Nat}
    (h : Inn w wr px pa ph ps it A s odd r es0 c0 es clock seen st) : seen.size ≤ es.size := by
  have := nodup_sub_length (l := seen.toList) (m := es.toList.map (·.born)) h.one (fun b hb => by
    obtain ⟨e, he, rfl⟩ := h.sub b hb
    exact List.mem_map_of_mem he)
  simpa using this

/-- The round's end: all that was there has been asked. -/
theorem Inn.fin {w wr : World} {px pa ph ps it : Nat} {A : Nat → List Nat} {s : Nat} {odd : Bool} {r : Nat} {es0 : Array MapEntry} {c0 : Nat} {es : Array MapEntry} {clock : Nat} {seen : Array Nat} {st : Nat}
    (h : Inn w wr px pa ph ps it A s odd r es0 c0 es clock seen st) (h0 : SetOk es0 c0) (hb : ∀ k, Ball A s r k → k ∈ keys es0) (hall : ∀ e ∈ es.toList, e.born < c0 → e.born ∈ seen) :
    es0.size ≤ seen.size ∧ ∀ k, Ball A s (r + 1) k → k ∈ keys es := by
  constructor
  · have := nodup_sub_length (l := es0.toList.map (·.born)) (m := seen.toList) h0.ent.stamp (fun b hb => by
      obtain ⟨e, he, rfl⟩ := List.mem_map.1 hb
      simpa using hall e (h.grow.mem he) (h0.ent.born e he))
    simpa using this
  · intro k hk
    rcases hk with hk | ⟨j, hj, hk⟩
    · exact h.grow.keys (hb k hk)
    · obtain ⟨e, he, rfl⟩ := List.mem_map.1 (hb j hj)
      exact h.done e (h.grow.mem he) (hall e (h.grow.mem he) (h0.ent.born e he)) k hk

/-- A round that adds nothing. -/
theorem Inn.closed {w wr : World} {px pa ph ps it : Nat} {A : Nat → List Nat} {s : Nat} {odd : Bool} {r : Nat} {es0 : Array MapEntry} {c0 : Nat} {es : Array MapEntry} {clock : Nat} {seen : Array Nat} {st : Nat}
    (h : Inn w wr px pa ph ps it A s odd r es0 c0 es clock seen st) (h0 : SetOk es0 c0) (hs : s ∈ keys es0) (hall : ∀ e ∈ es.toList, e.born < c0 → e.born ∈ seen) (hsz : es.size = es0.size) : ∀ k, k ∈ keys es ↔ Rch A s k := by
  have he := h.grow.eq hsz
  subst he
  intro k
  refine ⟨h.rch k, fun hk => ?_⟩
  induction hk with
  | base => exact hs
  | step hk hm ih =>
    obtain ⟨e, he, rfl⟩ := List.mem_map.1 ih
    exact h.done e he (hall e he (h0.ent.born e he)) _ hm

theorem keys_one {es : Array MapEntry} {c : Nat} (h : SetOk es c) {s : Nat} (hs : s ∈ keys es) (h1 : es.size ≤ 1) : ∀ k ∈ keys es, k = s := by
  intro k hk
  have hl : (keys es).length ≤ 1 := by simpa [keys] using h1
  match hk2 : keys es with
  | [] => rw [hk2] at hs; cases hs
  | [a] => rw [hk2] at hs hk; simp at hs hk; omega
  | a :: b :: t => rw [hk2] at hl; simp at hl

def szOf (w : World) (b : Nat) : Nat := match w.heap[b]? with | some (.map es _) => es.size | _ => 0
theorem szOf_eq {w : World} {b : Nat} {es : Array MapEntry} {c : Nat} (h : w.heap[b]? = some (.map es c)) : szOf w b = es.size := by simp [szOf, h]

set_option maxHeartbeats 4000000 in
set_option maxRecDepth 4000 in
theorem reach_calls {w : World} {px pa ph : Nat} {A : Nat → List Nat} {B C : Nat → Nat} {r0 : Int} {odd : Bool} (hx : w.heap[px]? = some (.cells (workCells pa ph r0 odd) 42 (0, 0))) (hA : AOk A) (h : AdjAt w pa A B C) (hap : px ∉ pa :: adjB A B) {s : Nat} (hs : s < 8) :
    Calls Try.prog 41 #[pt px, .int .i64 s] w fun x w' => ∃ ps es clock, ∃ r : Nat, x = .returned (.map (some ps)) ∧ w.heap.size ≤ ps ∧ w'.heap[ps]? = some (.map es clock) ∧ SetOk es clock ∧ (∀ k, k ∈ keys es ↔ Rch A s k) ∧
      w'.heap[px]? = some (.cells (workCells pa ph r odd) 42 (0, 0)) ∧ RB A s r ∧ Chg [px] w w' := by
  have hmm : (Instr.makeMap 46 none).run Try.prog w = .ok (.map (some w.heap.size)) (w.alloc (.map #[] 0)) := run_makeMap 46 w
  have h00 : SetOk #[] 0 := ⟨⟨by simp, by simp, by simp, by simp⟩, by simp⟩
  obtain ⟨w1, es1, c1, hput, hm1, hc1, hs1, ho1, hg1, hk1⟩ := run_setput (heap_alloc_new w (.map #[] 0)) h00 s hs
  have hpx : px < w.heap.size := lt_of hx
  have hps : w.heap.size ≠ px := by omega
  have hx1 : w1.heap[px]? = some (.cells (workCells pa ph r0 odd) 42 (0, 0)) := hc1.keep (Chg.keep (bs := []) ((Chg.refl _ _).alloc _) hx (by simp)) (by simp; omega)
  have c2 : w1.cell? ⟨px, 2, none⟩ = some (.int .i64 r0) := cell_of hx1 rfl
  have f2 : w1.frozen? ⟨px, 2, none⟩ = false := frozen_of hx1
  have hcw1 : Chg [px] w w1 := ((Chg.refl [px] w).alloc _).andThen hc1 (by intro x hx; simp at hx; omega)
  have hO : Out w (w1.setCell ⟨px, 2, none⟩ (.int .i64 0)) px pa ph w.heap.size A s odd 0 es1 c1 := by
    have hcs : Chg [px] w1 (w1.setCell ⟨px, 2, none⟩ (.int .i64 0)) := (Chg.refl _ _).setCell (Or.inl (by simp)) _
    refine ⟨hcs.keep hm1 (by simp; omega), ho1, ?_, ?_, ?_, ?_, ?_, ?_, fun d _ => Nat.zero_le _, hcw1.trans hcs⟩
    · intro k hk
      rcases (hk1 k).1 hk with e | rfl
      · simp [keys] at e
      · exact .base
    · exact (hk1 s).2 (Or.inr rfl)
    · rintro k rfl
      exact (hk1 _).2 (Or.inr rfl)
    · rw [heap_setCell_same w1 px 2 _ _ _ hx1]
      simp [workCells]
    · have : s ∈ keys es1 := (hk1 s).2 (Or.inr rfl)
      have := List.length_pos_of_mem this
      simpa [keys] using this
    · intro _
      have := nodup_sub_length (l := keys es1) (m := [s]) ho1.ent.one (fun x hx => by rcases (hk1 x).1 hx with e | e; simp [keys] at e; simp [e])
      simpa [keys] using this
  have HO : Hid (Out w (w1.setCell ⟨px, 2, none⟩ (.int .i64 0)) px pa ph w.heap.size A s odd 0 es1 c1) := hO
  have HX : Hid (AOk A ∧ AdjAt w pa A B C ∧ px ∉ pa :: adjB A B ∧ w.heap[px]? = some (.cells (workCells pa ph r0 odd) 42 (0, 0))) := ⟨hA, h, hap, hx⟩
  clear hO hx hA h hap ho1 hm1 hc1 hk1 hg1 hx1 hcw1 h00 hs1
  go_enter Try.func41, Try.ntmps41
  go_wp2_with fail
  go_loopw [6] (fun _ wr => ∃ (r : Nat) (es : Array MapEntry) (c : Nat), Out w wr px pa ph w.heap.size A s odd r es c) (fun _ wr => 8 - szOf wr w.heap.size)
  case atStart => exact ⟨0, es1, c1, HO.out⟩
  case round =>
    obtain ⟨r, es0, c0, ho⟩ := hrel
    rename World => wO
    have HOr : Hid (Out w wO px pa ph w.heap.size A s odd r es0 c0) := ho
    have hsz8 := ho.ok.size
    have hlo := ho.lo
    have c2 : wO.cell? ⟨px, 2, none⟩ = some (.int .i64 r) := cell_of ho.row rfl
    have f2 : wO.frozen? ⟨px, 2, none⟩ = false := frozen_of ho.row
    have hne2 : px ≠ w.heap.size := by omega
    have hcs : Chg [px] wO (wO.setCell ⟨px, 2, none⟩ (.int .i64 ((r : Int) + 1))) := (Chg.refl _ _).setCell (Or.inl (by simp)) _
    have hmS : (wO.setCell ⟨px, 2, none⟩ (.int .i64 ((r : Int) + 1))).heap[w.heap.size]? = some (.map es0 c0) := hcs.keep ho.map (by simp; omega)
    have hlen := fun ty => run_len (kt := 3) (el := 4) hmS Try.underlying46 ty
    have hrange := run_range_map (P := Try.prog) (wO.setCell ⟨px, 2, none⟩ (.int .i64 ((r : Int) + 1))) 46 3 4 w.heap.size es0 c0 Try.underlying46 hmS
    have hI0 : Inn w ((wO.setCell ⟨px, 2, none⟩ (.int .i64 ((r : Int) + 1))).alloc (.mapIter (some w.heap.size) c0 #[] c0)) px pa ph w.heap.size wO.heap.size A s odd r es0 c0 es0 c0 #[] c0 := by
      have hca : Chg [] (wO.setCell ⟨px, 2, none⟩ (.int .i64 ((r : Int) + 1))) ((wO.setCell ⟨px, 2, none⟩ (.int .i64 ((r : Int) + 1))).alloc (.mapIter (some w.heap.size) c0 #[] c0)) := (Chg.refl _ _).alloc _
      have hnew := heap_alloc_new (wO.setCell ⟨px, 2, none⟩ (.int .i64 ((r : Int) + 1))) (.mapIter (some w.heap.size) c0 #[] c0)
      refine ⟨hca.keep hmS (by simp), by simpa using hnew, ho.ok, Grow.refl _ _, Nat.le_refl _, by simp, by simp, by simp, ho.sub, ?_, (ho.chg.trans hcs).trans hca.any⟩
      refine hca.keep ?_ (by simp)
      rw [heap_setCell_same wO px 2 _ _ _ ho.row]
      simp [workCells]
    have HI0 : Hid (Inn w ((wO.setCell ⟨px, 2, none⟩ (.int .i64 ((r : Int) + 1))).alloc (.mapIter (some w.heap.size) c0 #[] c0)) px pa ph w.heap.size wO.heap.size A s odd r es0 c0 es0 c0 #[] c0) := hI0
    have HSZ : Hid (w.heap.size < wO.heap.size ∧ px < wO.heap.size) := ⟨lt_of ho.map, lt_of ho.row⟩
    have HNE : Hid (w.heap.size ≠ px) := hps
    clear ho hcs hmS hI0
    go_wp2_with fail
    go_loopw [7, 8] (fun v7 _ wr => ∃ (es : Array MapEntry) (c : Nat) (seen : Array Nat) (st : Nat), v7 = .int .i64 seen.size ∧ Inn w wr px pa ph w.heap.size wO.heap.size A s odd r es0 c0 es c seen st) (fun v7 _ _ => (8 - intOf v7).toNat)
    case atStart => exact ⟨es0, c0, #[], c0, rfl, HI0.out⟩
    case round =>
      obtain ⟨es, c, seen, st, rfl, hin⟩ := hrel
      rename World => wI
      have hask := hin.asked
      have hes8 := hin.ok.size
      have hold : seen.size = 0 ∨ es.size = 0 ∨ ∃ e ∈ es.toList, e.born < st := by
        right; right
        obtain ⟨e, he, _⟩ := List.mem_map.1 HOr.out.src
        exact ⟨e, hin.grow.mem he, Nat.lt_of_lt_of_le (HOr.out.ok.ent.born e he) hin.le⟩
      rcases run_next_any wI wO.heap.size w.heap.size c0 st seen es c hin.it hin.map (by have := HSZ.out.1; omega) hold with ⟨hall, w', hw', hrun⟩ | ⟨e, he, hns, w', hrun, hit', hmap', hch', hsz'⟩
      · -- the round is over
        have hin' : Inn w w' px pa ph w.heap.size wO.heap.size A s odd r es0 c0 es c seen st := by
          rcases hw' with rfl | rfl
          · exact hin
          · exact ⟨hin.map, hin.it, hin.ok, hin.grow, hin.le, hin.one, hin.sub, hin.done, hin.rch, hin.row, hin.chg.drew⟩
        have hfin := hin'.fin HOr.out.ok HOr.out.ball hall
        have HIN : Hid (Inn w w' px pa ph w.heap.size wO.heap.size A s odd r es0 c0 es c seen st) := hin'
        have HAL : Hid (∀ e ∈ es.toList, e.born < c0 → e.born ∈ seen) := hall
        have HBL : Hid (∀ k, Ball A s (r + 1) k → k ∈ keys es) := hfin.2
        have hlo1 := hfin.1
        have hgs := hin.grow.size
        have hlen' := fun ty => run_len (kt := 3) (el := 4) hin'.map Try.underlying46 ty
        have d1 : decide (seen.size < es0.size) = false := by simp; omega
        have d2 : decide (es.size < seen.size) = false := by simp; omega
        clear hin hin' hold hw' hall hfin
        by_cases heq : es.size = es0.size
        · have d3 : ((es.size : Int) == (es0.size : Int)) = true := by rw [beq_iff_eq]; omega
          have hcl := HIN.out.closed HOr.out.ok HOr.out.src HAL.out heq
          have HCL : Hid (∀ k, k ∈ keys es ↔ Rch A s k) := hcl
          have HEQ : Hid (es.size = es0.size) := heq
          have hrb : RB A s (r + 1) := by
            refine ⟨by omega, by omega, fun d hd => by have := HOr.out.hi d hd; omega, ?_⟩
            rintro ⟨k, hks, hk⟩
            apply Classical.byContradiction
            intro hn
            have hr0 : r = 0 := by omega
            subst hr0
            exact hks (keys_one HOr.out.ok HOr.out.src (HOr.out.first rfl) k (by rw [← HIN.out.grow.eq HEQ.out]; exact (HCL.out k).2 hk))
          have HRB : Hid (RB A s (r + 1)) := hrb
          clear hcl hrb
          go_wp2
          go_ret
          exact ⟨w.heap.size, es, c, r + 1, rfl, Nat.le_refl _, HIN.out.map, HIN.out.ok, HCL.out, HIN.out.row, HRB.out, HIN.out.chg⟩
        · have d3 : ((es.size : Int) == (es0.size : Int)) = false := beq_eq_false_iff_ne.2 (by omega)
          have HO2 : Hid (Out w w' px pa ph w.heap.size A s odd (r + 1) es c) := by
            have hin := HIN.out
            refine ⟨hin.map, hin.ok, hin.rch, hin.grow.keys HOr.out.src, HBL.out, hin.row, by omega, (fun e => absurd e (by omega)), ?_, hin.chg⟩
            intro d hd
            apply Classical.byContradiction
            intro hn
            have hsub : ∀ k ∈ keys es, k ∈ keys es0 := fun k hk => HOr.out.ball k (Ball.mono (by omega) (hd k (hin.rch k hk)))
            have := nodup_sub_length (l := keys es) (m := keys es0) hin.ok.ent.one hsub
            simp [keys] at this
            omega
          clear HIN HAL HBL
          go_wp2
          exact ⟨⟨r + 1, es, c, HO2.out⟩, by rw [szOf_eq HO2.out.map, szOf_eq HOr.out.map]; omega⟩
      · -- an entry
        have hke := (hin.ok.ent.key e he).1
        have hk8 := (hin.ok.ent.key e he).2
        have hen := run_entry_at (P := Try.prog) w' wO.heap.size w.heap.size c0 seen es c e hit' hmap' he hin.ok.ent.stamp
        rw [hke, hin.ok.val e he] at hen hrun
        have hask2 : seen.size < es.size := by
          have := nodup_sub_length (l := e.born :: seen.toList) (m := es.toList.map (·.born)) (List.nodup_cons.2 ⟨by simpa using hns, hin.one⟩) (fun b hb => by
            rcases List.mem_cons.1 hb with rfl | hb
            · exact List.mem_map_of_mem he
            · obtain ⟨e', he', rfl⟩ := hin.sub b hb
              exact List.mem_map_of_mem he')
          simp at this
          omega
        have hcw : Chg [px] w w' := hin.chg.andThen hch' (by intro x hx; simp at hx; have := HSZ.out.1; omega)
        have hrow' : w'.heap[px]? = some (.cells (workCells pa ph (r + 1 : Nat) odd) 42 (0, 0)) := hch'.keep hin.row (by simp; have := HSZ.out.2; omega)
        have cA : w'.cell? ⟨px, 0, none⟩ = some (.map (some pa)) := cell_of hrow' rfl
        obtain ⟨lp, cap, hlook, hcase⟩ := (HX.out.2.1.chg HX.out.1 hcw (by intro x hx hm; simp at hm; subst hm; exact HX.out.2.2.1 hx)).look' (kn e) hk8
        have HCS : Hid ((A (kn e) = [] ∧ lp = none ∧ cap = 0) ∨ (A (kn e) ≠ [] ∧ lp = some ⟨B (kn e), 0, none⟩ ∧ cap = C (kn e) ∧ RowAt w' (B (kn e)) (A (kn e)) (C (kn e)))) := hcase
        have HIN : Hid (Inn w wI px pa ph w.heap.size wO.heap.size A s odd r es0 c0 es c seen st) := hin
        have HE : Hid (e ∈ es.toList ∧ e.born ∉ seen ∧ kn e < 8) := ⟨he, hns, hk8⟩
        have HW : Hid (w'.heap[wO.heap.size]? = some (.mapIter (some w.heap.size) c0 (seen.push e.born) c) ∧ w'.heap[w.heap.size]? = some (.map es c) ∧ w'.heap[px]? = some (.cells (workCells pa ph (r + 1 : Nat) odd) 42 (0, 0)) ∧ Chg [px] w w') := ⟨hit', hmap', hrow', hcw⟩
        have hl3 := HX.out.1.len (kn e)
        clear hin hold hke he hns hit' hmap' hch' hsz' hcase hrow' hcw
        generalize hKE : kn e = ke at *
        have HKE : Hid (kn e = ke) := hKE
        clear hKE
        go_wp2_with fail
        go_loopw [41, 10] (fun v41 _ wr => ∃ (j : Nat) (es' : Array MapEntry) (c' : Nat), v41 = .int .i64 j ∧ j ≤ (A ke).length ∧ wr.heap[w.heap.size]? = some (.map es' c') ∧ SetOk es' c' ∧ Grow es c es' c' ∧ (∀ m ∈ (A ke).take j, m ∈ keys es') ∧ (∀ k ∈ keys es', Rch A s k) ∧ Chg [w.heap.size] w' wr) (fun v41 _ _ => (((A ke).length : Int) - intOf v41).toNat)
        case atStart => exact ⟨0, es, c, rfl, Nat.zero_le _, HW.out.2.1, HIN.out.ok, Grow.refl _ _, by simp, HIN.out.rch, Chg.refl _ _⟩
        case round =>
          obtain ⟨j, es', c', rfl, hj, hm', hok', hg', htk, hrc', hcz⟩ := hrel
          have HR : Hid (wr.heap[w.heap.size]? = some (.map es' c') ∧ SetOk es' c' ∧ Grow es c es' c' ∧ (∀ m ∈ (A ke).take j, m ∈ keys es') ∧ (∀ k ∈ keys es', Rch A s k) ∧ Chg [w.heap.size] w' wr) := ⟨hm', hok', hg', htk, hrc', hcz⟩
          clear hm' hok' hg' htk hrc' hcz
          by_cases hjl : j < (A ke).length
          · have d1 : decide (j < (A ke).length) = true := by simpa using hjl
            rcases HCS.out with ⟨h0, _⟩ | ⟨hne, rfl, rfl, hrow⟩
            · rw [h0] at hjl; simp at hjl
            · have hbl : B ke < w.heap.size := (HX.out.2.1.row ke hne).lt
              have hcell := (hrow.chg HR.out.2.2.2.2.2 (by simp; omega)).cell hjl
              have hm8 := HX.out.1.lt ke ((A ke)[j]) (List.getElem_mem hjl)
              obtain ⟨wn, esn, cn, hput, hmn, hcn, hsn, hokn, hgn, hkn⟩ := run_setput HR.out.1 HR.out.2.1 ((A ke)[j]) hm8
              have HN : Hid (wn.heap[w.heap.size]? = some (.map esn cn) ∧ SetOk esn cn ∧ Grow es c esn cn ∧ (∀ m ∈ (A ke).take (j + 1), m ∈ keys esn) ∧ (∀ k ∈ keys esn, Rch A s k) ∧ Chg [w.heap.size] w' wn) := by
                refine ⟨hmn, hokn, HR.out.2.2.1.trans hgn, ?_, ?_, HR.out.2.2.2.2.2.trans hcn⟩
                · intro m hm
                  rw [List.take_add_one, List.getElem?_eq_getElem hjl] at hm
                  simp only [Option.toList_some, List.mem_append, List.mem_singleton] at hm
                  rcases hm with hm | rfl
                  · exact hgn.keys (HR.out.2.2.2.1 m hm)
                  · exact (hkn _).2 (Or.inr rfl)
                · intro k hk
                  rcases (hkn k).1 hk with hk | rfl
                  · exact HR.out.2.2.2.2.1 k hk
                  · refine .step (HIN.out.rch ke ?_) (List.getElem_mem hjl)
                    rw [← HKE.out]
                    exact List.mem_map_of_mem HE.out.1
              generalize (A ke)[j] = mj at *
              clear hrow hmn hcn hsn hokn hgn hkn
              go_wp2
              exact ⟨⟨j + 1, esn, cn, by simp, by omega, HN.out⟩, by simp [intOf]; omega⟩
          · have d1 : decide (j < (A ke).length) = false := by simpa using hjl
            have HF : Hid (Inn w wr px pa ph w.heap.size wO.heap.size A s odd r es0 c0 es' c' (seen.push e.born) c) := by
              have hin := HIN.out
              obtain ⟨h1, h2, h3, h4, h5, h6⟩ := HR.out
              obtain ⟨g1, g2, g3, g4⟩ := HW.out
              have hszO := HSZ.out
              have hjj : j = (A ke).length := by omega
              refine ⟨h1, h6.keep g1 (by simp; omega), h2, hin.grow.trans h3, Nat.le_trans hin.grow.le (Nat.le_refl _), ?_, ?_, ?_, h5, h6.keep g3 (by simp; omega), g4.andThen h6 (by intro x hx; simp at hx; omega)⟩
              · rw [Array.toList_push, List.nodup_append]
                refine ⟨hin.one, by simp, ?_⟩
                intro a ha b hb
                simp at hb
                subst hb
                intro e1
                subst e1
                exact HE.out.2.1 (by simpa using ha)
              · intro b hb
                rw [Array.toList_push, List.mem_append] at hb
                rcases hb with hb | hb
                · obtain ⟨e', he', e2⟩ := hin.sub b hb
                  exact ⟨e', h3.mem he', e2⟩
                · simp at hb
                  exact ⟨e, h3.mem HE.out.1, hb.symm⟩
              · intro e' he' hb' m hm
                have hold' : e'.born < c := by
                  rw [Array.mem_push] at hb'
                  rcases hb' with hb' | hb'
                  · obtain ⟨e3, he3, e4⟩ := hin.sub e'.born (by simpa using hb')
                    rw [← e4]; exact hin.ok.ent.born e3 he3
                  · rw [hb']; exact hin.ok.ent.born e HE.out.1
                have heo := h3.old he' hold'
                rw [Array.mem_push] at hb'
                rcases hb' with hb' | hb'
                · exact h3.keys (hin.done e' heo hb' m hm)
                · have := hin.ok.ent.stamp_inj heo HE.out.1 hb'
                  subst this
                  rw [HKE.out] at hm
                  exact h4 m (by rw [hjj, List.take_length]; exact hm)
            have hes8' := HF.out.ok.size
            clear HR
            go_wp2
            exact ⟨⟨es', c', seen.push e.born, c, by simp, HF.out⟩, by simp [intOf]; omega⟩
end Go.Proofs.Qxb6500374a.W

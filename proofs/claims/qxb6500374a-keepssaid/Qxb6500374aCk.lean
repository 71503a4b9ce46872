import Derived.Test.Qxb6500374aTw
set_option linter.unusedVariables false
set_option linter.unusedSimpArgs false
namespace Go.Proofs.Qxb6500374a.W
open Go.RowKit Go.Maps

/-- A range that only reads. -/
structure Rg (w wr : World) (pb it : Nat) (es : Array MapEntry) (c : Nat) (L : List MapEntry) (st : Nat) : Prop where
  map : wr.heap[pb]? = some (.map es c)
  itr : wr.heap[it]? = some (.mapIter (some pb) c (L.map (·.born)).toArray st)
  sub : ∀ e ∈ L, e ∈ es.toList
  one : (L.map (·.born)).Nodup
  le : c ≤ st
  chg : Chg [] w wr

theorem Rg.len {w wr : World} {pb it : Nat} {es : Array MapEntry} {c : Nat} {L : List MapEntry} {st : Nat} (h : Rg w wr pb it es c L st) : L.length ≤ es.size := by
  have := nodup_sub_length (l := L.map (·.born)) (m := es.toList.map (·.born)) h.one (fun b hb => by
    obtain ⟨e, he, rfl⟩ := List.mem_map.1 hb
    exact List.mem_map_of_mem (h.sub e he))
  simpa using this

theorem Rg.start {w : World} {pb : Nat} {es : Array MapEntry} {c : Nat} (hb : w.heap[pb]? = some (.map es c)) : Rg w (w.alloc (.mapIter (some pb) c #[] c)) pb w.heap.size es c [] c := by
  have ha : Chg [] w (w.alloc (.mapIter (some pb) c #[] c)) := (Chg.refl _ _).alloc _
  exact ⟨ha.keep hb (by simp), heap_alloc_new _ _, by simp, by simp, Nat.le_refl _, ha⟩

theorem Rg.hold {w wr : World} {pb it : Nat} {es : Array MapEntry} {c : Nat} {L : List MapEntry} {st : Nat} (h : Rg w wr pb it es c L st) (hb : ∀ e ∈ es.toList, e.born < c) : (L.map (·.born)).toArray.size = 0 ∨ es.size = 0 ∨ ∃ e ∈ es.toList, e.born < st := by
  rcases Nat.eq_zero_or_pos es.size with h0 | h0
  · exact Or.inr (Or.inl h0)
  · refine Or.inr (Or.inr ⟨es[0], by simp, ?_⟩)
    exact Nat.lt_of_lt_of_le (hb es[0] (by simp)) h.le

theorem Rg.push {w wr w' : World} {pb it : Nat} {es : Array MapEntry} {c : Nat} {L : List MapEntry} {st : Nat} (h : Rg w wr pb it es c L st) {e : MapEntry} (he : e ∈ es.toList) (hn : e.born ∉ (L.map (·.born)).toArray)
    (hit : w'.heap[it]? = some (.mapIter (some pb) c ((L.map (·.born)).toArray.push e.born) c)) (hmap : w'.heap[pb]? = some (.map es c)) (hch : Chg [it] wr w') (hnew : w.heap.size ≤ it) : Rg w w' pb it es c (L ++ [e]) c := by
  refine ⟨hmap, ?_, ?_, ?_, Nat.le_refl _, h.chg.andThen hch (by intro x hx; simp at hx; omega)⟩
  · rw [hit]
    simp
  · intro x hx
    rcases List.mem_append.1 hx with hx | hx
    · exact h.sub x hx
    · simp at hx; rw [hx]; exact he
  · rw [List.map_append, List.nodup_append]
    refine ⟨h.one, by simp, ?_⟩
    intro a ha b hb
    simp at hb
    subst hb
    intro e1
    subst e1
    exact hn (by simpa using ha)

theorem Rg.drew {w wr w' : World} {pb it : Nat} {es : Array MapEntry} {c : Nat} {L : List MapEntry} {st : Nat} (h : Rg w wr pb it es c L st) (hw : w' = wr ∨ w' = wr.drew) : Rg w w' pb it es c L st := by
  rcases hw with rfl | rfl
  · exact h
  · exact ⟨h.map, h.itr, h.sub, h.one, h.le, h.chg.drew⟩

def seenOf (w : World) (it : Nat) : Nat := match w.heap[it]? with | some (.mapIter _ _ s _) => s.size | _ => 0
theorem Rg.seen {w wr : World} {pb it : Nat} {es : Array MapEntry} {c : Nat} {L : List MapEntry} {st : Nat} (h : Rg w wr pb it es c L st) : seenOf wr it = L.length := by simp [seenOf, h.itr]

theorem eqF (d : Nat) (a b : Nat) (w : World) : (Op.equalIn (d + 1) 50 (.float .f64 a) (.float .f64 b)).run Try.prog w = .ok (ord a b == some .eq) w := by
  simp [Op.equalIn, run_underlying Try.underlying50]
  rfl
theorem neq_run (a b : Nat) (w : World) : (binOp .neq 50 (.float .f64 a) (.float .f64 b)).run Try.prog w = .ok (.bool (!(ord a b == some .eq))) w := by
  simp only [binOp]
  rw [if_neg (by simp)]
  rfl
theorem neq_num {j : Nat} (hj : j < 7) (w : World) : (binOp .neq 50 (.float .f64 (fb j)) (.float .f64 (fb j))).run Try.prog w = .ok (.bool false) w := by
  rw [neq_run, ord_fb j hj j hj]
  simp
theorem neq_nan {b : Nat} (h : NaNb b) (w : World) : (binOp .neq 50 (.float .f64 b) (.float .f64 b)).run Try.prog w = .ok (.bool true) w := by
  rw [neq_run, (h b).1]
  rfl

set_option maxRecDepth 4000 in
theorem rounds_calls {w : World} {px pa ph : Nat} {B C : Nat → Nat} {S : WS} (h : WAt w px pa ph B C S) : Calls Try.prog 24 #[pt px] w fun x w' => x = .returned (.int .i64 S.rd) ∧ w' = w := by
  have c2 : w.cell? ⟨px, 2, none⟩ = some (.int .i64 S.rd) := cell_of h.row rfl
  clear h
  go_enter Try.func24, Try.ntmps24
  go_wp2
  go_ret
  exact ⟨rfl, rfl⟩

set_option maxHeartbeats 4000000 in
set_option maxRecDepth 4000 in
theorem wcheck_calls {w : World} {px pa ph : Nat} {B C : Nat → Nat} {S : WS} (h : WAt w px pa ph B C S) (ho : S.ok) : Calls Try.prog 25 #[pt px] w fun x w' => x = .returned (.bool true) ∧ Chg [] w w' := by
  have H : Hid (WAt w px pa ph B C S) := h
  have HO : Hid S.ok := ho
  have c0 : w.cell? ⟨px, 0, none⟩ = some (.map (some pa)) := cell_of h.row rfl
  have c3 : w.cell? ⟨px, 3, none⟩ = some (.bool false) := cell_of h.row rfl
  obtain ⟨es, c, hm, hent, hev, _⟩ := h.adj.map
  have hrange := run_range_map (P := Try.prog) w 39 3 44 pa es c Try.underlying39 hm
  have HE : Hid (w.heap[pa]? = some (.map es c) ∧ Ent es c ∧ ∀ e ∈ es.toList, S.A (kn e) ≠ [] ∧ e.val = adjV S.A B C (kn e)) := ⟨hm, hent, hev⟩
  clear h ho hm hent hev
  go_enter Try.func25, Try.ntmps25
  go_wp2_with fail
  go_loopw [4] (fun _ wr => ∃ (L : List MapEntry) (st : Nat), Rg w wr pa w.heap.size es c L st) (fun _ wr => es.size - seenOf wr w.heap.size)
  case atStart => exact ⟨[], c, Rg.start HE.out.1⟩
  case round =>
    obtain ⟨L, st, hrg⟩ := hrel
    rename World => wI
    have hlen := hrg.len
    rcases run_next_any wI w.heap.size pa c st _ es c hrg.itr hrg.map (by have := lt_of HE.out.1; omega) (hrg.hold HE.out.2.1.born) with ⟨hall, w', hw', hrun⟩ | ⟨e, he, hns, w', hrun, hit', hmap', hch', hsz'⟩
    · have hrg' := hrg.drew hw'
      have HC1 : Hid (Chg [] w w') := hrg'.chg
      have c1 : w'.cell? ⟨px, 1, none⟩ = some (.map (some ph)) := cell_of (hrg'.chg.keep H.out.row (by simp)) rfl
      obtain ⟨es2, c2, hm2, hok2⟩ := H.out.hist.chg hrg'.chg (by simp)
      have hrange2 := run_range_map (P := Try.prog) w' 40 50 3 ph es2 c2 Try.underlying40 hm2
      have HE2 : Hid (w'.heap[ph]? = some (.map es2 c2) ∧ HOk es2 c2 S.cn S.nn) := ⟨hm2, hok2⟩
      clear hrg hrg' hw' hall hm2 hok2 c0 c3 hrange
      go_wp2_with fail
      go_loopw [5, 6] (fun _ _ wr => ∃ (L : List MapEntry) (st : Nat), Rg w' wr ph w'.heap.size es2 c2 L st) (fun _ _ wr => es2.size - seenOf wr w'.heap.size)
      case atStart => exact ⟨[], c2, Rg.start HE2.out.1⟩
      case round =>
        clear hlen
        rename List MapEntry => L0
        obtain ⟨L, st, hrg⟩ := hrel
        rename World => wJ
        have hlen := hrg.len
        rcases run_next_any wJ w'.heap.size ph c2 st _ es2 c2 hrg.itr hrg.map (by have := lt_of HE2.out.1; omega) (hrg.hold HE2.out.2.born) with ⟨hall, w3, hw', hrun3⟩ | ⟨e, he, hns, w3, hrun3, hit', hmap', hch', hsz'⟩
        · have hrg' := hrg.drew hw'
          have HC3 : Hid (Chg [] w' w3) := hrg'.chg
          have c1' : w3.cell? ⟨px, 1, none⟩ = some (.map (some ph)) := cell_of (hrg'.chg.keep (HC1.out.keep H.out.row (by simp)) (by simp)) rfl
          have hlenR := fun ty => run_len (kt := 50) (el := 3) hrg'.map Try.underlying40 ty
          have hs10 : es2.size ≤ 10 := by rw [HE2.out.2.size]; exact HO.out.small
          clear hrg hrg' hw' hall
          go_wp2
          go_ret
          have d : decide ((es2.size : Int) ≤ 10) = true := by simp; omega
          first
            | exact ⟨rfl, HC1.out.trans HC3.out⟩
            | (rw [d]; exact ⟨rfl, HC1.out.trans HC3.out⟩)
        · have hen := run_entry_at (P := Try.prog) w3 w'.heap.size ph c2 _ es2 c2 e hit' hmap' he HE2.out.2.stamp
          have hp := hrg.push he hns hit' hmap' hch' (Nat.le_refl _)
          have HP : Hid (Rg w' w3 ph w'.heap.size es2 c2 (L ++ [e]) c2 ∧ seenOf wJ w'.heap.size = L.length) := ⟨hp, hrg.seen⟩
          have hl2 := hp.len
          simp at hl2
          rcases HE2.out.2.each e he with ⟨h1, h2, h3, h4⟩ | ⟨h1, b, h2, h3, h4⟩
          · rw [h2, h3] at hen hrun3
            have hneq := neq_num h1 w3
            have d1 : decide (S.cn (clE e) < 1) = false := by simp; omega
            clear hrg he hns hit' hmap' hch' hsz' h1 h2 h3 hp
            generalize S.cn (clE e) = cc at *
            generalize fb (clE e) = bb at *
            go_wp2
            exact ⟨⟨L ++ [e], c2, HP.out.1⟩, by rw [HP.out.1.seen, HP.out.2]; simp; omega⟩
          · rw [h2, h4] at hen hrun3
            have hneq := neq_nan h3 w3
            clear hrg he hns hit' hmap' hch' hsz' h1 h2 h3 hp
            go_wp2
            exact ⟨⟨L ++ [e], c2, HP.out.1⟩, by rw [HP.out.1.seen, HP.out.2]; simp; omega⟩
    · have hke := (HE.out.2.1.key e he).1
      have hen := run_entry_at (P := Try.prog) w' w.heap.size pa c _ es c e hit' hmap' he HE.out.2.1.stamp
      have hp := hrg.push he hns hit' hmap' hch' (Nat.le_refl _)
      have HP : Hid (Rg w w' pa w.heap.size es c (L ++ [e]) c ∧ seenOf wI w.heap.size = L.length) := ⟨hp, hrg.seen⟩
      have hl2 := hp.len
      simp at hl2
      rw [hke, (HE.out.2.2 e he).2, adjV] at hen hrun
      have h3 := HO.out.aok.len (kn e)
      have h0 : 0 < (S.A (kn e)).length := List.length_pos_iff.2 (HE.out.2.2 e he).1
      have d1 : (((S.A (kn e)).length : Int) == 0) = false := beq_eq_false_iff_ne.2 (by omega)
      have d2 : decide (3 < (S.A (kn e)).length) = false := by simp; omega
      clear hrg he hns hit' hmap' hch' hsz' hke hp
      generalize (S.A (kn e)).length = al at *
      go_wp2
      exact ⟨⟨L ++ [e], c, HP.out.1⟩, by rw [HP.out.1.seen, HP.out.2]; simp; omega⟩
end Go.Proofs.Qxb6500374a.W

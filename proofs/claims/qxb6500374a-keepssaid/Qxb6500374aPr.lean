import Derived.Test.Qxb6500374aDr
set_option linter.unusedVariables false
set_option linter.unusedSimpArgs false
namespace Go.Proofs.Qxb6500374a.W
open Go.RowKit Go.Maps

/-- Prune, plainly. -/
def pruneC (cn : Nat → Int) (m : Int) : Nat → Int := fun j => if j < 7 ∧ cn j < m then 0 else cn j
def pruneS (S : WS) (m : Int) : WS := { S with cn := pruneC S.cn m }

/-- The sweep of Prune. -/
structure Pg (w wr : World) (ph it : Nat) (es0 : Array MapEntry) (c : Nat) (cn : Nat → Int) (nn : Nat) (m : Int) (es : Array MapEntry) (cr : Nat → Int) (L : List MapEntry) (st : Nat) : Prop where
  map : wr.heap[ph]? = some (.map es c)
  itr : wr.heap[it]? = some (.mapIter (some ph) c (L.map (·.born)).toArray st)
  ok : HOk es c cr nn
  sub : ∀ e ∈ L, e ∈ es0.toList
  one : (L.map (·.born)).Nodup
  old : ∀ e ∈ es.toList, e ∈ es0.toList
  all : ∀ e ∈ es0.toList, e ∈ es.toList ∨ e ∈ L
  kept : ∀ j, j < 7 → cr j = cn j ∨ (cr j = 0 ∧ cn j < m)
  gone : ∀ e ∈ es.toList, e ∈ L → clE e < 7 → ¬ cn (clE e) < m
  out : ∀ j, 7 ≤ j → cr j = cn j
  le : c ≤ st
  chg : Chg [ph] w wr

theorem Pg.len {w wr : World} {ph it : Nat} {es0 : Array MapEntry} {c : Nat} {cn : Nat → Int} {nn : Nat} {m : Int} {es : Array MapEntry} {cr : Nat → Int} {L : List MapEntry} {st : Nat} (h : Pg w wr ph it es0 c cn nn m es cr L st) : L.length ≤ es0.size := by
  have := nodup_sub_length (l := L.map (·.born)) (m := es0.toList.map (·.born)) h.one (fun b hb => by
    obtain ⟨e, he, rfl⟩ := List.mem_map.1 hb
    exact List.mem_map_of_mem (h.sub e he))
  simpa using this

theorem Pg.fin {w wr : World} {ph it : Nat} {es0 : Array MapEntry} {c : Nat} {cn : Nat → Int} {nn : Nat} {m : Int} {es : Array MapEntry} {cr : Nat → Int} {L : List MapEntry} {st : Nat} (h : Pg w wr ph it es0 c cn nn m es cr L st) (h0 : HOk es0 c cn nn)
    (hall : ∀ e ∈ es.toList, e.born < c → e.born ∈ (L.map (·.born)).toArray) : L.length = es0.size ∧ cr = pruneC cn m := by
  have hin : ∀ e ∈ es.toList, e ∈ L := by
    intro e he
    have := hall e he (h.ok.born e he)
    simp at this
    obtain ⟨e', he', hb⟩ := this
    rw [stamp_inj' h0.stamp (h.old e he) (h.sub e' he') hb.symm]
    exact he'
  constructor
  · have h1 := h.len
    have := nodup_sub_length (l := es0.toList.map (·.born)) (m := L.map (·.born)) h0.stamp (fun b hb => by
      obtain ⟨e, he, rfl⟩ := List.mem_map.1 hb
      rcases h.all e he with h2 | h2
      · exact List.mem_map_of_mem (hin e h2)
      · exact List.mem_map_of_mem h2)
    simp at this
    omega
  · funext j
    unfold pruneC
    rcases Nat.lt_or_ge j 7 with hj | hj
    · rcases h.kept j hj with h1 | ⟨h1, h2⟩
      · by_cases hm : cn j < m
        · rw [if_pos ⟨hj, hm⟩]
          by_cases hp : 0 < cr j
          · exfalso
            have hone := h.ok.one j hj
            rw [if_pos hp] at hone
            have : j ∈ es.toList.map clE := List.count_pos_iff.1 (by omega)
            obtain ⟨e, he, hc⟩ := List.mem_map.1 this
            exact h.gone e he (hin e he) (by omega) (by rw [hc]; exact hm)
          · have := h.ok.pos j hj
            omega
        · rw [if_neg (fun hx => hm hx.2), h1]
      · rw [if_pos ⟨hj, h2⟩, h1]
    · rw [if_neg (by omega), h.out j hj]

theorem Pg.hold {w wr : World} {ph it : Nat} {es0 : Array MapEntry} {c : Nat} {cn : Nat → Int} {nn : Nat} {m : Int} {es : Array MapEntry} {cr : Nat → Int} {L : List MapEntry} {st : Nat} (h : Pg w wr ph it es0 c cn nn m es cr L st) : (L.map (·.born)).toArray.size = 0 ∨ es.size = 0 ∨ ∃ e ∈ es.toList, e.born < st := by
  rcases Nat.eq_zero_or_pos es.size with h0 | h0
  · exact Or.inr (Or.inl h0)
  · refine Or.inr (Or.inr ⟨es[0], by simp, ?_⟩)
    exact Nat.lt_of_lt_of_le (h.ok.born es[0] (by simp)) h.le

theorem Pg.nodup {w wr : World} {ph it : Nat} {es0 : Array MapEntry} {c : Nat} {cn : Nat → Int} {nn : Nat} {m : Int} {es : Array MapEntry} {cr : Nat → Int} {L : List MapEntry} {st : Nat} (h : Pg w wr ph it es0 c cn nn m es cr L st) {e : MapEntry} (hn : e.born ∉ (L.map (·.born)).toArray) : ((L ++ [e]).map (·.born)).Nodup := by
  rw [List.map_append, List.nodup_append]
  refine ⟨h.one, by simp, ?_⟩
  intro a ha b hb
  simp at hb
  subst hb
  intro e1
  subst e1
  exact hn (by simpa using ha)

/-- One entry comes out and stays. -/
theorem Pg.stay {w wr w' : World} {ph it : Nat} {es0 : Array MapEntry} {c : Nat} {cn : Nat → Int} {nn : Nat} {m : Int} {es : Array MapEntry} {cr : Nat → Int} {L : List MapEntry} {st : Nat} (h : Pg w wr ph it es0 c cn nn m es cr L st) {e : MapEntry} (he : e ∈ es.toList) (hn : e.born ∉ (L.map (·.born)).toArray)
    (hit : w'.heap[it]? = some (.mapIter (some ph) c ((L.map (·.born)).toArray.push e.born) c)) (hmap : w'.heap[ph]? = some (.map es c)) (hc : Chg [ph] w w') (hk : clE e < 7 → ¬ cn (clE e) < m) : Pg w w' ph it es0 c cn nn m es cr (L ++ [e]) c := by
  refine ⟨hmap, by rw [hit]; simp, h.ok, ?_, h.nodup hn, h.old, ?_, h.kept, ?_, h.out, Nat.le_refl _, hc⟩
  · intro x hx
    rcases List.mem_append.1 hx with hx | hx
    · exact h.sub x hx
    · simp at hx; rw [hx]; exact h.old e he
  · intro x hx
    rcases h.all x hx with h1 | h1
    · exact Or.inl h1
    · exact Or.inr (by simp [h1])
  · intro x hx hl h7
    rcases List.mem_append.1 hl with hl | hl
    · exact h.gone x hx hl h7
    · simp at hl; subst hl; exact hk h7

/-- One entry comes out and goes. -/
theorem Pg.go {w wr w' : World} {ph it : Nat} {es0 : Array MapEntry} {c : Nat} {cn : Nat → Int} {nn : Nat} {m : Int} {es es' : Array MapEntry} {cr : Nat → Int} {L : List MapEntry} {st : Nat} (h : Pg w wr ph it es0 c cn nn m es cr L st) {e : MapEntry} (he : e ∈ es.toList) (hn : e.born ∉ (L.map (·.born)).toArray)
    (hit : w'.heap[it]? = some (.mapIter (some ph) c ((L.map (·.born)).toArray.push e.born) c)) (hmap : w'.heap[ph]? = some (.map es' c)) (hok : HOk es' c (upd cr (clE e) 0) nn) (hes : ∀ x, x ∈ es'.toList ↔ x ∈ es.toList ∧ clE x ≠ clE e) (hc : Chg [ph] w w') (h7 : clE e < 7) (hk : cn (clE e) < m) : Pg w w' ph it es0 c cn nn m es' (upd cr (clE e) 0) (L ++ [e]) c := by
  have hcount := h.ok.one (clE e) h7
  have hpos : 0 < cr (clE e) := by
    by_cases hp : 0 < cr (clE e)
    · exact hp
    · rw [if_neg hp] at hcount
      exact absurd rfl (count_zero hcount e he)
  rw [if_pos hpos] at hcount
  refine ⟨hmap, by rw [hit]; simp, hok, ?_, h.nodup hn, fun x hx => h.old x ((hes x).1 hx).1, ?_, ?_, ?_, ?_, Nat.le_refl _, hc⟩
  · intro x hx
    rcases List.mem_append.1 hx with hx | hx
    · exact h.sub x hx
    · simp at hx; rw [hx]; exact h.old e he
  · intro x hx
    rcases h.all x hx with h1 | h1
    · by_cases hcl : clE x = clE e
      · right
        obtain ⟨i, hi, e1⟩ := List.getElem_of_mem h1
        obtain ⟨k, hk', e2⟩ := List.getElem_of_mem he
        have := count1_unique hcount (List.getElem?_eq_some_iff.2 ⟨hi, e1⟩) (List.getElem?_eq_some_iff.2 ⟨hk', e2⟩) hcl rfl
        subst this
        rw [e1] at e2
        simp [e2]
      · exact Or.inl ((hes x).2 ⟨h1, hcl⟩)
    · exact Or.inr (by simp [h1])
  · intro j hj
    by_cases hje : j = clE e
    · subst hje
      exact Or.inr ⟨upd_same _ _ _, hk⟩
    · rw [upd_ne _ _ hje]; exact h.kept j hj
  · intro x hx hl h7'
    have := (hes x).1 hx
    rcases List.mem_append.1 hl with hl | hl
    · exact h.gone x this.1 hl h7'
    · simp at hl; subst hl; exact absurd rfl this.2
  · intro j hj
    rw [upd_ne _ _ (by omega)]; exact h.out j hj

theorem one1_le (x : Int) : one1 x ≤ 1 := by unfold one1; split <;> omega
theorem pruneC_one (cn : Nat → Int) (m : Int) (j : Nat) : one1 (pruneC cn m j) ≤ one1 (cn j) := by
  unfold pruneC
  split
  · simp [one1]
  · exact Nat.le_refl _
theorem pruneC_nums (cn : Nat → Int) (m : Int) : nums (pruneC cn m) ≤ nums cn := by
  unfold nums
  have h0 := pruneC_one cn m 0
  have h1 := pruneC_one cn m 1
  have h2 := pruneC_one cn m 2
  have h3 := pruneC_one cn m 3
  have h4 := pruneC_one cn m 4
  have h5 := pruneC_one cn m 5
  have h6 := pruneC_one cn m 6
  omega

set_option maxHeartbeats 4000000 in
set_option maxRecDepth 4000 in
theorem prune_calls {w : World} {px pa ph : Nat} {B C : Nat → Nat} {S : WS} (h : WAt w px pa ph B C S) (ho : S.ok) (m : Int) :
    Calls Try.prog 35 #[pt px, .int .i64 m] w fun x w' => x = .returned (.int .i64 (sizeS S - sizeS (pruneS S m))) ∧ WStp px pa ph B C S (pruneS S m) w w' := by
  have c1 : w.cell? ⟨px, 1, none⟩ = some (.map (some ph)) := cell_of h.row rfl
  have hl : ∀ ty, (Builtin.len_ #[40] ty #[.map (some ph)]).run Try.prog w = .ok (.int .i64 (sizeS S)) w := h.hist.len
  obtain ⟨es0, c, hm, hok⟩ := h.hist
  have hsz : (es0.size : Int) = sizeS S := by rw [hok.size]; rfl
  have hrange := run_range_map (P := Try.prog) w 40 50 3 ph es0 c Try.underlying40 hm
  have H : Hid (WAt w px pa ph B C S) := h
  have HO : Hid S.ok := ho
  have HE : Hid (w.heap[ph]? = some (.map es0 c) ∧ HOk es0 c S.cn S.nn) := ⟨hm, hok⟩
  have hne : px ≠ ph := by have := h.ap1; simp only [List.mem_cons, not_or] at this; exact this.2.1
  have HNE : Hid (px ≠ ph) := hne
  have hb1 : 0 ≤ sizeS S ∧ sizeS S ≤ 10 := by have := ho.small; unfold sizeS; omega
  have hb2 : 0 ≤ sizeS (pruneS S m) ∧ sizeS (pruneS S m) ≤ 10 := by
    have := ho.small
    have := pruneC_nums S.cn m
    unfold sizeS pruneS
    simp only
    omega
  obtain ⟨hb1, hb1'⟩ := hb1
  obtain ⟨hb2, hb2'⟩ := hb2
  generalize hn1 : sizeS S = n1 at *
  generalize hn2 : sizeS (pruneS S m) = n2 at *
  have HN2 : Hid (sizeS (pruneS S m) = n2) := hn2
  clear h ho hm hok hne hn1 hn2
  go_enter Try.func35, Try.ntmps35
  go_wp2_with fail
  go_loopw [6, 7, 8] (fun v6 _ _ wr => ∃ (es : Array MapEntry) (cr : Nat → Int) (L : List MapEntry) (st : Nat), v6 = .int .i64 (L.length : Nat) ∧ Pg w wr ph w.heap.size es0 c S.cn S.nn m es cr L st) (fun v6 _ _ wr => (n1 - intOf v6).toNat)
  case atStart =>
    refine ⟨es0, S.cn, [], c, rfl, ?_⟩
    have ha : Chg [] w (w.alloc (.mapIter (some ph) c #[] c)) := (Chg.refl _ _).alloc _
    exact ⟨ha.keep HE.out.1 (by simp), heap_alloc_new _ _, HE.out.2, by simp, by simp, fun e he => he, fun e he => Or.inl he, fun j _ => Or.inl rfl, by simp, fun _ _ => rfl, Nat.le_refl _, ha.any⟩
  case round =>
    obtain ⟨es, cr, L, st, rfl, hpg⟩ := hrel
    rename World => wI
    have hlen := hpg.len
    have hlt0 := lt_of HE.out.1
    have hgn : w.heap.size ≠ ph := by omega
    rcases run_next_any wI w.heap.size ph c st _ es c hpg.itr hpg.map hgn hpg.hold with ⟨hall, w', hw', hrun⟩ | ⟨e, he, hns, w', hrun, hit', hmap', hch', hsz'⟩
    · obtain ⟨hf1, hf2⟩ := hpg.fin HE.out.2 hall
      have hmap' : w'.heap[ph]? = some (.map es c) := by rcases hw' with rfl | rfl <;> exact hpg.map
      have hcw : Chg [ph] w w' := by rcases hw' with rfl | rfl; exact hpg.chg; exact hpg.chg.drew
      have hst : HistAt w' ph (pruneC S.cn m) S.nn := ⟨es, c, hmap', by rw [← hf2]; exact hpg.ok⟩
      have c1' : w'.cell? ⟨px, 1, none⟩ = some (.map (some ph)) := cell_of (H.out.hist' HO.out.aok hst hcw).row rfl
      have HS : Hid (WStp px pa ph B C S (pruneS S m) w w') := WStp.hist H.out HO.out.aok hst hcw
      have hl' : ∀ ty, (Builtin.len_ #[40] ty #[.map (some ph)]).run Try.prog w' = .ok (.int .i64 n2) w' := by rw [← HN2.out]; exact hst.len
      have hq : (L.length : Int) = n1 := by omega
      have d : ((L.length : Int) == n1) = true := by simpa using hq
      rw [hq]
      clear hpg hw' hall hmap' hcw hst hf1 hf2 hlen hq d
      go_wp2
      go_ret
      exact ⟨rfl, HS.out⟩
    · have hen := run_entry_at (P := Try.prog) w' w.heap.size ph c _ es c e hit' hmap' he hpg.ok.stamp
      have hcw : Chg [ph] w w' := hpg.chg.andThen hch' (by intro x hx; simp at hx; omega)
      have c1' : w'.cell? ⟨px, 1, none⟩ = some (.map (some ph)) := cell_of (hcw.keep H.out.row (by simp; exact HNE.out)) rfl
      have hnn : e ∉ L := fun hx => hns (by simp; exact ⟨e, hx, rfl⟩)
      have hl2 : L.length + 1 ≤ es0.size := by
        have := nodup_sub_length (l := (L ++ [e]).map (·.born)) (m := es0.toList.map (·.born)) (hpg.nodup hns) (fun b hb => by
          obtain ⟨y, hy, rfl⟩ := List.mem_map.1 hb
          rcases List.mem_append.1 hy with hy | hy
          · exact List.mem_map_of_mem (hpg.sub y hy)
          · simp at hy; subst hy; exact List.mem_map_of_mem (hpg.old y he))
        simpa using this
      rcases hpg.ok.each e he with ⟨h1, h2, h3, h4⟩ | ⟨h1, b, h2, h3, h4⟩
      · have hcr : cr (clE e) = S.cn (clE e) := by
          rcases hpg.kept _ h1 with hk | ⟨hk, _⟩
          · exact hk
          · omega
        rw [h2, h3, hcr] at hen hrun
        by_cases hlm : S.cn (clE e) < m
        · obtain ⟨w3, es3, hdel, hm3, hok3, hc3, hes3⟩ := run_hdel hmap' hpg.ok h1
          have HP : Hid (Pg w w3 ph w.heap.size es0 c S.cn S.nn m es3 (upd cr (clE e) 0) (L ++ [e]) c) :=
            hpg.go he hns (hc3.keep hit' (by simp; exact hgn)) hm3 hok3 hes3 (hcw.trans hc3) h1 hlm
          have d1 : decide (S.cn (clE e) < m) = true := by simpa using hlm
          clear hpg he hns hit' hmap' hch' hsz' h1 h2 h3 h4 hm3 hok3 hc3 hes3 hlm hcr hcw hnn
          generalize S.cn (clE e) = cc at *
          generalize fb (clE e) = bb at *
          go_wp2
          exact ⟨⟨es3, upd cr (clE e) 0, L ++ [e], c, by simp, HP.out⟩, by simp [intOf]; omega⟩
        · have HP : Hid (Pg w w' ph w.heap.size es0 c S.cn S.nn m es cr (L ++ [e]) c) := hpg.stay he hns hit' hmap' hcw (fun _ => hlm)
          have d1 : decide (S.cn (clE e) < m) = false := by simpa using hlm
          clear hpg he hns hit' hmap' hch' hsz' h1 h2 h3 h4 hlm hcr hcw hnn
          generalize S.cn (clE e) = cc at *
          generalize fb (clE e) = bb at *
          go_wp2
          exact ⟨⟨es, cr, L ++ [e], c, by simp, HP.out⟩, by simp [intOf]; omega⟩
      · rw [h2, h4] at hen hrun
        by_cases hlm : (1 : Int) < m
        · obtain ⟨w3, hdel, hm3, hc3⟩ := run_hdelNan hmap' hpg.ok h3
          have HP : Hid (Pg w w3 ph w.heap.size es0 c S.cn S.nn m es cr (L ++ [e]) c) :=
            hpg.stay he hns (hc3.keep hit' (by simp; exact hgn)) hm3 (hcw.trans hc3) (fun h => by omega)
          have d1 : decide ((1 : Int) < m) = true := by simpa using hlm
          clear hpg he hns hit' hmap' hch' hsz' h1 h2 h3 h4 hm3 hc3 hcw hnn
          go_wp2
          exact ⟨⟨es, cr, L ++ [e], c, by simp, HP.out⟩, by simp [intOf]; omega⟩
        · have HP : Hid (Pg w w' ph w.heap.size es0 c S.cn S.nn m es cr (L ++ [e]) c) := hpg.stay he hns hit' hmap' hcw (fun h => by omega)
          have d1 : decide ((1 : Int) < m) = false := by simpa using hlm
          clear hpg he hns hit' hmap' hch' hsz' h1 h2 h3 h4 hcw hnn
          go_wp2
          exact ⟨⟨es, cr, L ++ [e], c, by simp, HP.out⟩, by simp [intOf]; omega⟩
end Go.Proofs.Qxb6500374a.W

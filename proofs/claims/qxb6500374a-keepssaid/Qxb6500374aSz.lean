import Derived.Test.Qxb6500374aHs
set_option linter.unusedVariables false
set_option linter.unusedSimpArgs false
namespace Go.Proofs.Qxb6500374a.W
open Go.RowKit Go.Maps

theorem WAt.hist' {w w' : World} {px pa ph : Nat} {B C : Nat → Nat} {S : WS} (h : WAt w px pa ph B C S) (hA : AOk S.A) {cn : Nat → Int} {nn : Nat} (hh : HistAt w' ph cn nn) (hc : Chg [ph] w w') : WAt w' px pa ph B C { S with cn := cn, nn := nn } := by
  have h1 := h.ap1
  have h2 := h.ap2
  simp only [List.mem_cons, not_or] at h1 h2
  refine ⟨hc.keep h.row (by simp; exact h1.2.1), h.adj.chg hA hc (fun y hy hm => ?_), hh, h.ap1, h.ap2⟩
  simp at hm
  subst hm
  rcases List.mem_cons.1 hy with e | e
  · exact h2.1 e
  · exact h2.2 e

theorem WStp.hist {w w' : World} {px pa ph : Nat} {B C : Nat → Nat} {S : WS} (h : WAt w px pa ph B C S) (hA : AOk S.A) {cn : Nat → Int} {nn : Nat} (hh : HistAt w' ph cn nn) (hc : Chg [ph] w w') : WStp px pa ph B C S { S with cn := cn, nn := nn } w w' :=
  ⟨⟨B, C, h.hist' hA hh hc, fun x hx => Or.inl hx⟩, hc.mono (by simp [wb])⟩

theorem nodup_of_map {α β : Type} {f : α → β} {l : List α} (h : (l.map f).Nodup) : l.Nodup := List.Pairwise.of_map f (fun a b hab e => hab (by rw [e])) h
theorem stamp_inj' {l : List MapEntry} (hn : (l.map (·.born)).Nodup) {e e' : MapEntry} (he : e ∈ l) (he' : e' ∈ l) (hb : e.born = e'.born) : e = e' := by
  induction l with
  | nil => cases he
  | cons a t ih =>
    rw [List.map_cons, List.nodup_cons] at hn
    rcases List.mem_cons.1 he with h1 | h1
    · rcases List.mem_cons.1 he' with h2 | h2
      · rw [h1, h2]
      · exact absurd (by rw [← h1, hb]; exact List.mem_map_of_mem h2) hn.1
    · rcases List.mem_cons.1 he' with h2 | h2
      · exact absurd (by rw [← h2, ← hb]; exact List.mem_map_of_mem h1) hn.1
      · exact ih hn.2 h1 h2

def sizeS (S : WS) : Int := ((nums S.cn + S.nn : Nat) : Int)

set_option maxRecDepth 4000 in
theorem size_calls {w : World} {px pa ph : Nat} {B C : Nat → Nat} {S : WS} (h : WAt w px pa ph B C S) : Calls Try.prog 29 #[pt px] w fun x w' => x = .returned (.int .i64 (sizeS S)) ∧ w' = w := by
  have c1 : w.cell? ⟨px, 1, none⟩ = some (.map (some ph)) := cell_of h.row rfl
  have hl := h.hist.len
  have E : Hid (sizeS S = ((nums S.cn + S.nn : Nat) : Int)) := rfl
  generalize nums S.cn + S.nn = n at *
  clear h
  go_enter Try.func29, Try.ntmps29
  go_wp2
  go_ret
  exact ⟨by rw [E.out]; rfl, rfl⟩

def wipeS (S : WS) : WS := { S with cn := fun _ => 0, nn := 0 }
set_option maxRecDepth 4000 in
theorem wipe_calls {w : World} {px pa ph : Nat} {B C : Nat → Nat} {S : WS} (h : WAt w px pa ph B C S) (ho : S.ok) : Calls Try.prog 34 #[pt px] w fun x w' => x = .returned (.int .i64 (sizeS S)) ∧ WStp px pa ph B C S (wipeS S) w w' := by
  have c1 : w.cell? ⟨px, 1, none⟩ = some (.map (some ph)) := cell_of h.row rfl
  have hl := h.hist.len
  have E : Hid (sizeS S = ((nums S.cn + S.nn : Nat) : Int)) := rfl
  have hs := ho.small
  obtain ⟨w', hcl, hh, hc⟩ := run_hclear h.hist
  have HS : Hid (WStp px pa ph B C S (wipeS S) w w') := WStp.hist h ho.aok hh hc
  have c1' : w'.cell? ⟨px, 1, none⟩ = some (.map (some ph)) := cell_of (h.hist' ho.aok hh hc).row rfl
  have hl' : ∀ ty, (Builtin.len_ #[40] ty #[.map (some ph)]).run Try.prog w' = .ok (.int .i64 0) w' := hh.len
  generalize nums S.cn + S.nn = n at *
  clear h ho hh hc
  go_enter Try.func34, Try.ntmps34
  go_wp2
  go_ret
  exact ⟨by rw [E.out]; simp, HS.out⟩

set_option maxHeartbeats 1000000 in
set_option maxRecDepth 4000 in
theorem nans_calls {w : World} {px pa ph : Nat} {B C : Nat → Nat} {S : WS} (h : WAt w px pa ph B C S) (ho : S.ok) : Calls Try.prog 30 #[pt px] w fun x w' => x = .returned (.int .i64 S.nn) ∧ Chg [] w w' := by
  have c1 : w.cell? ⟨px, 1, none⟩ = some (.map (some ph)) := cell_of h.row rfl
  have hs := ho.small
  obtain ⟨es, c, hm, hok⟩ := h.hist
  have hsz := hok.size
  have hrange := run_range_map (P := Try.prog) w 40 50 3 ph es c Try.underlying40 hm
  have HE : Hid (w.heap[ph]? = some (.map es c) ∧ HOk es c S.cn S.nn) := ⟨hm, hok⟩
  clear h ho hm hok
  go_enter Try.func30, Try.ntmps30
  go_wp2_with fail
  go_loopw [3, 4] (fun v3 _ wr => ∃ (L : List MapEntry) (st : Nat), v3 = .int .i64 ((L.map clE).count 7 : Nat) ∧ Rg w wr ph w.heap.size es c L st) (fun _ _ wr => es.size - seenOf wr w.heap.size)
  case atStart => exact ⟨[], c, rfl, Rg.start HE.out.1⟩
  case round =>
    obtain ⟨L, st, rfl, hrg⟩ := hrel
    rename World => wI
    have hlen := hrg.len
    have hcn : (L.map clE).count 7 ≤ L.length := by have := List.count_le_length (a := 7) (l := L.map clE); simpa using this
    rcases run_next_any wI w.heap.size ph c st _ es c hrg.itr hrg.map (by have := lt_of HE.out.1; omega) (hrg.hold HE.out.2.born) with ⟨hall, w', hw', hrun⟩ | ⟨e, he, hns, w', hrun, hit', hmap', hch', hsz'⟩
    · have hrg' := hrg.drew hw'
      have HC1 : Hid (Chg [] w w') := hrg'.chg
      have EN : Hid ((L.map clE).count 7 = S.nn) := by
        show _ = _
        have hp : L.Perm es.toList := by
          have hndL : L.Nodup := nodup_of_map hrg.one
          have hndE : es.toList.Nodup := nodup_of_map HE.out.2.stamp
          refine (List.perm_ext_iff_of_nodup hndL hndE).2 fun x => ⟨hrg.sub x, fun hx => ?_⟩
          have := hall x hx (HE.out.2.born x hx)
          simp at this
          obtain ⟨y, hy, hb⟩ := this
          have : x = y := by
            have hst := HE.out.2.stamp
            exact stamp_inj' hst hx (hrg.sub y hy) hb.symm
          rw [this]; exact hy
        rw [← HE.out.2.nan]
        exact (hp.map clE).count_eq 7
      clear hrg hrg' hw' hall
      generalize (L.map clE).count 7 = q at *
      go_wp2
      go_ret
      exact ⟨by rw [← EN.out]; rfl, HC1.out⟩
    · have hen := run_entry_at (P := Try.prog) w' w.heap.size ph c _ es c e hit' hmap' he HE.out.2.stamp
      have hp := hrg.push he hns hit' hmap' hch' (Nat.le_refl _)
      have HP : Hid (Rg w w' ph w.heap.size es c (L ++ [e]) c ∧ seenOf wI w.heap.size = L.length) := ⟨hp, hrg.seen⟩
      have hl2 := hp.len
      simp at hl2
      rcases HE.out.2.each e he with ⟨h1, h2, h3, h4⟩ | ⟨h1, b, h2, h3, h4⟩
      · rw [h2, h3] at hen hrun
        have hneq := neq_num h1 w'
        have HQ : Hid (((L ++ [e]).map clE).count 7 = (L.map clE).count 7) := by
          show _ = _
          rw [List.map_append, List.count_append, List.map_cons, List.map_nil, List.count_cons_of_ne (by omega)]
          simp
        clear hrg he hns hit' hmap' hch' hsz' h1 h2 h3 hp h4
        generalize S.cn (clE e) = cc at *
        generalize fb (clE e) = bb at *
        generalize hq : (L.map clE).count 7 = q at *
        go_wp2
        exact ⟨⟨L ++ [e], c, by rw [HQ.out], HP.out.1⟩, by rw [HP.out.1.seen, HP.out.2]; simp; omega⟩
      · rw [h2, h4] at hen hrun
        have hneq := neq_nan h3 w'
        have HQ : Hid (((L ++ [e]).map clE).count 7 = (L.map clE).count 7 + 1) := by
          show _ = _
          rw [List.map_append, List.count_append, List.map_cons, List.map_nil, h1]
          simp
        clear hrg he hns hit' hmap' hch' hsz' h1 h2 h3 hp h4
        generalize hq : (L.map clE).count 7 = q at *
        go_wp2
        exact ⟨⟨L ++ [e], c, by rw [HQ.out]; simp, HP.out.1⟩, by rw [HP.out.1.seen, HP.out.2]; simp; omega⟩
end Go.Proofs.Qxb6500374a.W

import Derived.Test.Qxb6500374aWa
set_option linter.unusedVariables false
set_option linter.unusedSimpArgs false
namespace Go.Proofs.Qxb6500374a.W
open Go.RowKit Go.Maps

/-- Which number two ints are. -/
def rI (h t : Int) : Nat := rj h.toNat t.toNat
theorem rI_lt (h t : Int) : rI h t < 7 := rj_lt _ _

/-- The ghost's entries. -/
structure GOk (n : Nat) (H T K cn : Nat → Int) : Prop where
  each : ∀ i, i < n → 0 ≤ H i ∧ H i ≤ T i ∧ 1 ≤ T i ∧ T i ≤ 4 ∧ K i = cn (rI (H i) (T i)) ∧ 0 < cn (rI (H i) (T i))
  inj : ∀ i j, i < n → j < n → rI (H i) (T i) = rI (H j) (T j) → i = j
  all : ∀ k, k < 7 → 0 < cn k → ∃ i, i < n ∧ rI (H i) (T i) = k
  pos : ∀ k, k < 7 → 0 ≤ cn k

theorem nums_filter (cn : Nat → Int) : ((List.range 7).filter fun k => decide (0 < cn k)).length = nums cn := by
  have h := fun i => filter_range_succ (fun k => decide (0 < cn k)) i
  rw [h 6, h 5, h 4, h 3, h 2, h 1, h 0]
  simp only [List.length_append]
  have e : ∀ i, (if decide (0 < cn i) = true then [i] else []).length = one1 (cn i) := by
    intro i
    unfold one1
    by_cases hc : 0 < cn i <;> simp [hc]
  rw [e, e, e, e, e, e, e]
  simp [nums]
theorem GOk.num {n : Nat} {H T K cn : Nat → Int} (h : GOk n H T K cn) : n = nums cn := by
  rw [← nums_filter]
  have h1 := nodup_sub_length (l := (List.range n).map fun i => rI (H i) (T i)) (m := (List.range 7).filter fun k => decide (0 < cn k)) (map_nodup (g := fun i => i) (by simpa using List.nodup_range) (fun x hx y hy e => h.inj x y (List.mem_range.1 hx) (List.mem_range.1 hy) e)) (by
    intro x hx
    obtain ⟨i, hi, rfl⟩ := List.mem_map.1 hx
    rw [List.mem_filter, List.mem_range]
    exact ⟨rI_lt _ _, by simpa using (h.each i (List.mem_range.1 hi)).2.2.2.2.2⟩)
  have h2 := nodup_sub_length (l := (List.range 7).filter fun k => decide (0 < cn k)) (m := (List.range n).map fun i => rI (H i) (T i)) (List.Pairwise.filter _ List.nodup_range) (by
    intro k hk
    rw [List.mem_filter, List.mem_range] at hk
    obtain ⟨i, hi, e⟩ := h.all k hk.1 (by simpa using hk.2)
    rw [← e]
    exact List.mem_map_of_mem (List.mem_range.2 hi))
  simp at h1 h2
  omega

theorem cross_chk : ((List.range 5).all fun b => (List.range 5).all fun a => (List.range 5).all fun d => (List.range 5).all fun c => !(decide (1 ≤ b) && (decide (a ≤ b) && (decide (1 ≤ d) && decide (c ≤ d)))) || (decide (a * d = c * b) == decide (rj a b = rj c d))) = true := by kernel_rfl
theorem cross {a b c d : Nat} (h1 : a ≤ b) (h2 : 1 ≤ b) (h3 : b ≤ 4) (h4 : c ≤ d) (h5 : 1 ≤ d) (h6 : d ≤ 4) : a * d = c * b ↔ rj a b = rj c d := by
  have h := List.all_eq_true.1 (List.all_eq_true.1 (List.all_eq_true.1 (List.all_eq_true.1 cross_chk b (List.mem_range.2 (by omega))) a (List.mem_range.2 (by omega))) d (List.mem_range.2 (by omega))) c (List.mem_range.2 (by omega))
  simp only [h1, h2, h4, h5, decide_true, Bool.and_self, Bool.not_true, Bool.false_or, beq_iff_eq] at h
  constructor
  · intro e; rw [decide_eq_true e] at h; exact of_decide_eq_true h.symm
  · intro e; rw [decide_eq_true e] at h; exact of_decide_eq_true h

/-- The ghost, as it lies. -/
structure GhF (w : World) (pg pE pH pT pK : Nat) (n : Nat) (H T K : Nat → Int) (S : WS) : Prop where
  row : w.heap[pg]? = some (.cells #[.slice (some ⟨pE, 0, none⟩) 64 64, .slice (some ⟨pH, 0, none⟩) 10 10, .slice (some ⟨pT, 0, none⟩) 10 10, .slice (some ⟨pK, 0, none⟩) 10 10, .int .i64 n, .int .i64 S.nn] 60 (0, 0))
  edge : BGrid w pE 64 (eF S.A)
  h : IGrid w pH 10 H
  t : IGrid w pT 10 T
  k : IGrid w pK 10 K
  ok : GOk n H T K S.cn
  ap : [pg, pE, pH, pT, pK].Nodup
def gb (pg pE pH pT pK : Nat) : List Nat := [pg, pE, pH, pT, pK]
def GhAt (w : World) (pg pE pH pT pK : Nat) (S : WS) : Prop := ∃ n H T K, GhF w pg pE pH pT pK n H T K S

theorem GhF.chg {w w' : World} {bs : List Nat} {pg pE pH pT pK n : Nat} {H T K : Nat → Int} {S : WS} (h : GhF w pg pE pH pT pK n H T K S) (hc : Chg bs w w') (hn : ∀ x ∈ gb pg pE pH pT pK, x ∉ bs) : GhF w' pg pE pH pT pK n H T K S :=
  ⟨hc.keep h.row (hn pg (by simp [gb])), h.edge.chg hc (hn pE (by simp [gb])), h.h.chg hc (hn pH (by simp [gb])), h.t.chg hc (hn pT (by simp [gb])), h.k.chg hc (hn pK (by simp [gb])), h.ok, h.ap⟩
theorem GhAt.chg {w w' : World} {bs : List Nat} {pg pE pH pT pK : Nat} {S : WS} (h : GhAt w pg pE pH pT pK S) (hc : Chg bs w w') (hn : ∀ x ∈ gb pg pE pH pT pK, x ∉ bs) : GhAt w' pg pE pH pT pK S := by
  obtain ⟨n, H, T, K, h⟩ := h
  exact ⟨n, H, T, K, h.chg hc hn⟩
theorem GhF.lt {w : World} {pg pE pH pT pK n : Nat} {H T K : Nat → Int} {S : WS} (h : GhF w pg pE pH pT pK n H T K S) : ∀ x ∈ gb pg pE pH pT pK, x < w.heap.size := by
  intro x hx
  simp [gb] at hx
  rcases hx with rfl | rfl | rfl | rfl | rfl
  · exact lt_of h.row
  · exact h.edge.lt
  · exact h.h.lt
  · exact h.t.lt
  · exact h.k.lt
theorem GhAt.lt {w : World} {pg pE pH pT pK : Nat} {S : WS} (h : GhAt w pg pE pH pT pK S) : ∀ x ∈ gb pg pE pH pT pK, x < w.heap.size := by
  obtain ⟨n, H, T, K, h⟩ := h
  exact h.lt
/-- What a step of the ghost leaves. -/
structure GStp (pg pE pH pT pK : Nat) (S' : WS) (w w' : World) : Prop where
  at_ : GhAt w' pg pE pH pT pK S'
  chg : Chg (gb pg pE pH pT pK) w w'
theorem GStp.same {w w' : World} {pg pE pH pT pK : Nat} {S : WS} (h : GhAt w pg pE pH pT pK S) (hc : Chg [] w w') : GStp pg pE pH pT pK S w w' := ⟨h.chg hc (by simp), hc.any⟩

/-! within -/
structure Inw (A : Nat → List Nat) (s r a b : Nat) (I : Nat → Bool) : Prop where
  rch : ∀ k, k < 8 → I k = true → Rch A s k
  ball : ∀ k, k < 8 → Ball A s r k → I k = true
  seen : ∀ x y, (x < a ∨ x = a ∧ y < b) → y < 8 → Ball A s r x → y ∈ A x → I y = true
theorem Inw.set {A : Nat → List Nat} (hA : AOk A) {s r a b : Nat} {I : Nat → Bool} (h : Inw A s r a b I) (ha : a < 8) (hb : b < 8) (h1 : I a = true) (h2 : (A a).contains b = true) : Inw A s r a (b + 1) (updf I b true) := by
  have hm : b ∈ A a := by simpa using h2
  refine ⟨?_, ?_, ?_⟩
  · intro k hk hI
    unfold updf at hI
    split at hI
    · rename_i e; subst e; exact .step (h.rch a ha h1) hm
    · exact h.rch k hk hI
  · intro k hk hB
    unfold updf
    split
    · rfl
    · exact h.ball k hk hB
  · intro x y hxy hy hB hm'
    unfold updf
    split
    · rfl
    · rename_i e
      exact h.seen x y (by omega) hy hB hm'
theorem Inw.stay {A : Nat → List Nat} {s r a b : Nat} {I : Nat → Bool} (h : Inw A s r a b I) (ha : a < 8) (hn : ¬ (I a = true ∧ (A a).contains b = true)) : Inw A s r a (b + 1) I := by
  refine ⟨h.rch, h.ball, ?_⟩
  intro x y hxy hy hB hm
  by_cases e : x = a ∧ y = b
  · obtain ⟨rfl, rfl⟩ := e
    exact absurd ⟨h.ball x ha hB, by simpa using hm⟩ hn
  · exact h.seen x y (by omega) hy hB hm
theorem Inw.next {A : Nat → List Nat} {s r a : Nat} {I : Nat → Bool} (h : Inw A s r a 8 I) : Inw A s r (a + 1) 0 I :=
  ⟨h.rch, h.ball, fun x y hxy hy hB hm => h.seen x y (by omega) hy hB hm⟩
theorem Inw.round {A : Nat → List Nat} (hA : AOk A) {s r : Nat} {I : Nat → Bool} (h : Inw A s r 8 0 I) : Inw A s (r + 1) 0 0 I := by
  refine ⟨h.rch, ?_, fun x y hxy => by omega⟩
  intro k hk hB
  rcases hB with hB | ⟨j, hj, hm⟩
  · exact h.ball k hk hB
  · refine h.seen j k (Or.inl ?_) hk hj hm
    rcases Nat.lt_or_ge j 8 with h8 | h8
    · exact h8
    · rw [hA.out j h8] at hm; cases hm
theorem Inw.fin {A : Nat → List Nat} (hA : AOk A) {s : Nat} (hs : s < 8) {I : Nat → Bool} (h : Inw A s 8 0 0 I) (k : Nat) (hk : k < 8) : I k = rchB A s k := by
  rw [Bool.eq_iff_iff, ← rch_iff hA hs]
  exact ⟨h.rch k hk, fun hr => h.ball k hk (Ball.mono (by omega) ((rch_ball hA hs).1 hr))⟩
theorem Inw.start {A : Nat → List Nat} {s : Nat} : Inw A s 0 0 0 (updf (fun _ => false) s true) := by
  refine ⟨?_, ?_, fun x y hxy => by omega⟩
  · intro k hk hI
    unfold updf at hI
    split at hI
    · rename_i e; subst e; exact .base
    · cases hI
  · intro k hk hB
    have e : k = s := hB
    subst e
    simp [updf]

def WithinP (S : WS) (s : Nat) (w : World) (x : Ending) (w' : World) : Prop := ∃ pI, w.heap.size ≤ pI ∧ x = .returned (.slice (some ⟨pI, 0, none⟩) 8 8) ∧ BGrid w' pI 8 (rchB S.A s) ∧ Chg [] w w'

set_option maxHeartbeats 8000000 in
set_option maxRecDepth 4000 in
theorem within_calls {w : World} {pg pE pH pT pK : Nat} {S : WS} (h : GhAt w pg pE pH pT pK S) (ho : S.ok) {s : Nat} (hs : s < 8) : Calls Try.prog 51 #[pt pg, .int .i64 s] w (WithinP S s w) := by
  obtain ⟨n, H, T, K, h⟩ := h
  have HH : Hid (GhF w pg pE pH pT pK n H T K S) := h
  have HO : Hid S.ok := ho
  have hmk := mkB8 w
  have HS : Hid (s < 8) := hs
  have cs := (bgrid_new w 8).cell hs
  have fs := (bgrid_new w 8).froz s
  have HN : Hid (BGrid (w.alloc (.cells ((Array.replicate 8 (.bool false)).setIfInBounds s (.bool true)) 4)) w.heap.size 8 (updf (fun _ => false) s true) ∧ Chg [] w (w.alloc (.cells ((Array.replicate 8 (.bool false)).setIfInBounds s (.bool true)) 4))) := by
    refine ⟨⟨_, heap_alloc_new _ _, by simp, fun i hi => ?_⟩, (Chg.refl _ _).alloc _⟩
    unfold updf
    by_cases e : i = s
    · subst e; simp [Array.getElem?_setIfInBounds, hi]
    · rw [if_neg e, Array.getElem?_setIfInBounds_ne (Ne.symm e)]
      simp [hi]
  clear h ho
  go_enter Try.func51, Try.ntmps51
  go_wp2_with fail
  clear cs fs hmk
  go_loopw [6] (fun v6 wr => ∃ (r : Nat) (I : Nat → Bool), r ≤ 8 ∧ v6 = .int .i64 r ∧ Inw S.A s r 0 0 I ∧ BGrid wr w.heap.size 8 I ∧ Chg [] w wr) (fun v6 _ => (8 - intOf v6).toNat)
  case atStart => exact ⟨0, _, by omega, rfl, Inw.start, HN.out.1, HN.out.2⟩
  case round =>
    clear HN
    obtain ⟨r, I, hr8, rfl, hin, hg, hc⟩ := hrel
    rename World => wR
    by_cases h8r : r < 8
    · have d0 : decide ((r : Int) < 8) = true := by simp; omega
      have HG : Hid (Inw S.A s r 0 0 I ∧ BGrid wR w.heap.size 8 I ∧ Chg [] w wR) := ⟨hin, hg, hc⟩
      clear hin hg hc
      go_wp2_with fail
      go_loopw [7] (fun v7 wr => ∃ (a : Nat) (I : Nat → Bool), a ≤ 8 ∧ v7 = .int .i64 a ∧ Inw S.A s r a 0 I ∧ BGrid wr w.heap.size 8 I ∧ Chg [] w wr) (fun v7 _ => (8 - intOf v7).toNat)
      case atStart => exact ⟨0, I, by omega, rfl, HG.out.1, HG.out.2.1, HG.out.2.2⟩
      case round =>
        clear HG
        rename Nat → Bool => I0
        obtain ⟨a, I, ha8, rfl, hin, hg, hc⟩ := hrel
        rename World => wA
        by_cases h8a : a < 8
        · have d1 : decide ((a : Int) < 8) = true := by simp; omega
          have HG : Hid (Inw S.A s r a 0 I ∧ BGrid wA w.heap.size 8 I ∧ Chg [] w wA) := ⟨hin, hg, hc⟩
          clear hin hg hc
          go_wp2_with fail
          go_loopw [8] (fun v8 wr => ∃ (b : Nat) (I : Nat → Bool), b ≤ 8 ∧ v8 = .int .i64 b ∧ Inw S.A s r a b I ∧ BGrid wr w.heap.size 8 I ∧ Chg [] w wr) (fun v8 _ => (8 - intOf v8).toNat)
          case atStart => exact ⟨0, I, by omega, rfl, HG.out.1, HG.out.2.1, HG.out.2.2⟩
          case round =>
            clear HG
            rename Nat → Bool => I1
            obtain ⟨b, I, hb8, rfl, hin, hg, hc⟩ := hrel
            rename World => wB
            have HG : Hid (Inw S.A s r a b I ∧ BGrid wB w.heap.size 8 I ∧ Chg [] w wB) := ⟨hin, hg, hc⟩
            by_cases h8b : b < 8
            · have hM := HH.out.chg hc (by simp)
              have c0 : wB.cell? ⟨pg, 0, none⟩ = some (.slice (some ⟨pE, 0, none⟩) 64 64) := cell_of hM.row rfl
              have ce := hM.edge.cell (i := a * 8 + b) (by omega)
              rw [eF_at _ h8b] at ce
              have ca := hg.cell h8a
              have cb := hg.cell h8b
              have hfz := hg.froz b
              clear hM
              cases t1 : I a with
              | true =>
                rw [t1] at ca
                cases t2 : (S.A a).contains b with
                | true =>
                  rw [t2] at ce
                  have HN : Hid (Inw S.A s r a (b + 1) (updf I b true) ∧ BGrid (wB.setCell ⟨w.heap.size, b, none⟩ (.bool true)) w.heap.size 8 (updf I b true) ∧ Chg [] w (wB.setCell ⟨w.heap.size, b, none⟩ (.bool true))) :=
                    ⟨hin.set HO.out.aok h8a h8b t1 t2, hg.set h8b true, hc.setCell (Or.inr (Nat.le_refl _)) _⟩
                  clear hin hg hc t1 t2
                  generalize I b = ib at *
                  go_wp2
                  exact ⟨⟨b + 1, _, by omega, by simp, HN.out.1, HN.out.2.1, HN.out.2.2⟩, by simp [intOf]; omega⟩
                | false =>
                  rw [t2] at ce
                  have HN : Hid (Inw S.A s r a (b + 1) I) := hin.stay h8a (fun hx => by rw [t2] at hx; exact absurd hx.2 (by simp))
                  clear hin hg hc t1 t2 cb
                  go_wp2
                  exact ⟨⟨b + 1, I, by omega, by simp, HN.out, HG.out.2.1, HG.out.2.2⟩, by simp [intOf]; omega⟩
              | false =>
                rw [t1] at ca
                have HN : Hid (Inw S.A s r a (b + 1) I) := hin.stay h8a (fun hx => by rw [t1] at hx; exact absurd hx.1 (by simp))
                clear hin hg hc t1 cb ce
                go_wp2
                exact ⟨⟨b + 1, I, by omega, by simp, HN.out, HG.out.2.1, HG.out.2.2⟩, by simp [intOf]; omega⟩
            · obtain rfl : b = 8 := by omega
              have HN : Hid (Inw S.A s r (a + 1) 0 I) := hin.next
              clear hin hg hc
              go_wp2
              exact ⟨⟨a + 1, I, by omega, by simp, HN.out, HG.out.2.1, HG.out.2.2⟩, by simp [intOf]; omega⟩
        · obtain rfl : a = 8 := by omega
          have HN : Hid (Inw S.A s (r + 1) 0 0 I ∧ BGrid wA w.heap.size 8 I ∧ Chg [] w wA) := ⟨hin.round HO.out.aok, hg, hc⟩
          clear hin hg hc
          go_wp2
          exact ⟨⟨r + 1, I, by omega, by simp, HN.out.1, HN.out.2.1, HN.out.2.2⟩, by simp [intOf]; omega⟩
    · obtain rfl : r = 8 := by omega
      have HF : Hid (WithinP S s w (.returned (.slice (some ⟨w.heap.size, 0, none⟩) 8 8)) wR) := ⟨w.heap.size, Nat.le_refl _, rfl, hg.congr (fun k hk => hin.fin HO.out.aok HS.out k hk), hc⟩
      clear hin hg hc
      go_wp2
      go_ret
      exact HF.out
end Go.Proofs.Qxb6500374a.W

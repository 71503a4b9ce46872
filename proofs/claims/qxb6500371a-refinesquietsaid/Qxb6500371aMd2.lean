import Derived.Test.Qxb6500371aMd
set_option linter.unusedVariables false
set_option linter.unusedSimpArgs false
namespace Go.Proofs.Qxb6500371a.W
open Go.RowKit Go.Maps

theorem MdAt.pl {w : World} {pd b cap : Nat} {base : Int} {g : GS} {lp : Option Addr} (h : MdAt w pd b base g lp cap) {j : Nat} (hj : j < g.n - b) :
    ∃ pl cur, lp = some ⟨pl, 0, none⟩ ∧ w.heap[pl]? = some (.cells cur 100 (0, 0)) ∧ (g.n - b ≤ cap ∧ cap ≤ maxLen) ∧ cur.size = cap * 4 ∧ pl ≠ pd ∧
      (∀ i, i < g.n - b → cur[i * 4]? = some (.int .i64 (g.puts (b + i))) ∧ cur[i * 4 + 1]? = some (.int .i64 (g.dels (b + i))) ∧ cur[i * 4 + 2]? = some (.int .i64 (g.ev (b + i))) ∧ cur[i * 4 + 3]? = some (.int .i64 (g.evk (b + i)))) := by
  rcases h.logs with ⟨h0, _⟩ | ⟨pl, cur, rfl, h1, h2, h3, h4⟩
  · omega
  · exact ⟨pl, cur, rfl, h1, h2, h3, fun e => h.apart (by simp [ownB, e]), h4⟩

theorem MdAt.set_puts {w : World} {pd b cap : Nat} {base : Int} {g : GS} {pl : Nat} (h : MdAt w pd b base g (some ⟨pl, 0, none⟩) cap) {j : Nat} (hj : j < g.n - b) (v : Int) :
    MdAt (w.setCell ⟨pl, j * 4, none⟩ (.int .i64 v)) pd b base { g with puts := upd g.puts (b + j) v } (some ⟨pl, 0, none⟩) cap := by
  obtain ⟨pl', cur, e, h1, h2, h3, h4, h5⟩ := h.pl hj
  cases e
  have hc : Chg [pl] w (w.setCell ⟨pl, j * 4, none⟩ (.int .i64 v)) := Chg.px (Chg.refl _ _)
  refine ⟨?_, Or.inr ⟨pl, _, rfl, heap_setCell_same w pl _ _ _ _ h1, h2, by simpa using h3, fun i hi => ?_⟩, h.apart, fun x hx => Nat.lt_of_lt_of_le (h.lt x hx) hc.size⟩
  · rw [hc.keep h.row (by simpa using h4.symm)]
    rfl
  · have hi' : i < g.n - b := hi
    obtain ⟨g0, g1, g2, g3⟩ := h5 i hi'
    have hjs : j * 4 < cur.size := by rw [h3]; omega
    by_cases e : i = j
    · subst e
      refine ⟨?_, ?_, ?_, ?_⟩ <;> simp [Array.getElem?_setIfInBounds, upd, g0, g1, g2, g3, hjs] <;> (try omega)
    · have hne : b + i ≠ b + j := by omega
      have n0 : ¬ j * 4 = i * 4 := by omega
      have n1 : ¬ j * 4 = i * 4 + 1 := by omega
      have n2 : ¬ j * 4 = i * 4 + 2 := by omega
      have n3 : ¬ j * 4 = i * 4 + 3 := by omega
      refine ⟨?_, ?_, ?_, ?_⟩
      · rw [Array.getElem?_setIfInBounds_ne n0]; simpa [upd, e] using g0
      · rw [Array.getElem?_setIfInBounds_ne n1]; simpa [upd, e] using g1
      · rw [Array.getElem?_setIfInBounds_ne n2]; simpa [upd, e] using g2
      · rw [Array.getElem?_setIfInBounds_ne n3]; simpa [upd, e] using g3

theorem MdAt.set_dels {w : World} {pd b cap : Nat} {base : Int} {g : GS} {pl : Nat} (h : MdAt w pd b base g (some ⟨pl, 0, none⟩) cap) {j : Nat} (hj : j < g.n - b) (v : Int) :
    MdAt (w.setCell ⟨pl, j * 4 + 1, none⟩ (.int .i64 v)) pd b base { g with dels := upd g.dels (b + j) v } (some ⟨pl, 0, none⟩) cap := by
  obtain ⟨pl', cur, e, h1, h2, h3, h4, h5⟩ := h.pl hj
  cases e
  have hc : Chg [pl] w (w.setCell ⟨pl, j * 4 + 1, none⟩ (.int .i64 v)) := Chg.px (Chg.refl _ _)
  refine ⟨?_, Or.inr ⟨pl, _, rfl, heap_setCell_same w pl _ _ _ _ h1, h2, by simpa using h3, fun i hi => ?_⟩, h.apart, fun x hx => Nat.lt_of_lt_of_le (h.lt x hx) hc.size⟩
  · rw [hc.keep h.row (by simpa using h4.symm)]
    rfl
  · have hi' : i < g.n - b := hi
    obtain ⟨g0, g1, g2, g3⟩ := h5 i hi'
    have hjs : j * 4 + 1 < cur.size := by rw [h3]; omega
    by_cases e : i = j
    · subst e
      refine ⟨?_, ?_, ?_, ?_⟩ <;> simp [Array.getElem?_setIfInBounds, upd, g0, g1, g2, g3, hjs] <;> (try omega)
    · have hne : b + i ≠ b + j := by omega
      have n0 : ¬ j * 4 + 1 = i * 4 := by omega
      have n1 : ¬ j * 4 + 1 = i * 4 + 1 := by omega
      have n2 : ¬ j * 4 + 1 = i * 4 + 2 := by omega
      have n3 : ¬ j * 4 + 1 = i * 4 + 3 := by omega
      refine ⟨?_, ?_, ?_, ?_⟩
      · rw [Array.getElem?_setIfInBounds_ne n0]; simpa [upd, e] using g0
      · rw [Array.getElem?_setIfInBounds_ne n1]; simpa [upd, e] using g1
      · rw [Array.getElem?_setIfInBounds_ne n2]; simpa [upd, e] using g2
      · rw [Array.getElem?_setIfInBounds_ne n3]; simpa [upd, e] using g3

theorem MdAt.set_ev {w : World} {pd b cap : Nat} {base : Int} {g : GS} {pl : Nat} (h : MdAt w pd b base g (some ⟨pl, 0, none⟩) cap) {j : Nat} (hj : j < g.n - b) (v : Int) :
    MdAt (w.setCell ⟨pl, j * 4 + 2, none⟩ (.int .i64 v)) pd b base { g with ev := upd g.ev (b + j) v } (some ⟨pl, 0, none⟩) cap := by
  obtain ⟨pl', cur, e, h1, h2, h3, h4, h5⟩ := h.pl hj
  cases e
  have hc : Chg [pl] w (w.setCell ⟨pl, j * 4 + 2, none⟩ (.int .i64 v)) := Chg.px (Chg.refl _ _)
  refine ⟨?_, Or.inr ⟨pl, _, rfl, heap_setCell_same w pl _ _ _ _ h1, h2, by simpa using h3, fun i hi => ?_⟩, h.apart, fun x hx => Nat.lt_of_lt_of_le (h.lt x hx) hc.size⟩
  · rw [hc.keep h.row (by simpa using h4.symm)]
    rfl
  · have hi' : i < g.n - b := hi
    obtain ⟨g0, g1, g2, g3⟩ := h5 i hi'
    have hjs : j * 4 + 2 < cur.size := by rw [h3]; omega
    by_cases e : i = j
    · subst e
      refine ⟨?_, ?_, ?_, ?_⟩ <;> simp [Array.getElem?_setIfInBounds, upd, g0, g1, g2, g3, hjs] <;> (try omega)
    · have hne : b + i ≠ b + j := by omega
      have n0 : ¬ j * 4 + 2 = i * 4 := by omega
      have n1 : ¬ j * 4 + 2 = i * 4 + 1 := by omega
      have n2 : ¬ j * 4 + 2 = i * 4 + 2 := by omega
      have n3 : ¬ j * 4 + 2 = i * 4 + 3 := by omega
      refine ⟨?_, ?_, ?_, ?_⟩
      · rw [Array.getElem?_setIfInBounds_ne n0]; simpa [upd, e] using g0
      · rw [Array.getElem?_setIfInBounds_ne n1]; simpa [upd, e] using g1
      · rw [Array.getElem?_setIfInBounds_ne n2]; simpa [upd, e] using g2
      · rw [Array.getElem?_setIfInBounds_ne n3]; simpa [upd, e] using g3

theorem MdAt.set_evk {w : World} {pd b cap : Nat} {base : Int} {g : GS} {pl : Nat} (h : MdAt w pd b base g (some ⟨pl, 0, none⟩) cap) {j : Nat} (hj : j < g.n - b) (v : Int) :
    MdAt (w.setCell ⟨pl, j * 4 + 3, none⟩ (.int .i64 v)) pd b base { g with evk := upd g.evk (b + j) v } (some ⟨pl, 0, none⟩) cap := by
  obtain ⟨pl', cur, e, h1, h2, h3, h4, h5⟩ := h.pl hj
  cases e
  have hc : Chg [pl] w (w.setCell ⟨pl, j * 4 + 3, none⟩ (.int .i64 v)) := Chg.px (Chg.refl _ _)
  refine ⟨?_, Or.inr ⟨pl, _, rfl, heap_setCell_same w pl _ _ _ _ h1, h2, by simpa using h3, fun i hi => ?_⟩, h.apart, fun x hx => Nat.lt_of_lt_of_le (h.lt x hx) hc.size⟩
  · rw [hc.keep h.row (by simpa using h4.symm)]
    rfl
  · have hi' : i < g.n - b := hi
    obtain ⟨g0, g1, g2, g3⟩ := h5 i hi'
    have hjs : j * 4 + 3 < cur.size := by rw [h3]; omega
    by_cases e : i = j
    · subst e
      refine ⟨?_, ?_, ?_, ?_⟩ <;> simp [Array.getElem?_setIfInBounds, upd, g0, g1, g2, g3, hjs] <;> (try omega)
    · have hne : b + i ≠ b + j := by omega
      have n0 : ¬ j * 4 + 3 = i * 4 := by omega
      have n1 : ¬ j * 4 + 3 = i * 4 + 1 := by omega
      have n2 : ¬ j * 4 + 3 = i * 4 + 2 := by omega
      have n3 : ¬ j * 4 + 3 = i * 4 + 3 := by omega
      refine ⟨?_, ?_, ?_, ?_⟩
      · rw [Array.getElem?_setIfInBounds_ne n0]; simpa [upd, e] using g0
      · rw [Array.getElem?_setIfInBounds_ne n1]; simpa [upd, e] using g1
      · rw [Array.getElem?_setIfInBounds_ne n2]; simpa [upd, e] using g2
      · rw [Array.getElem?_setIfInBounds_ne n3]; simpa [upd, e] using g3

theorem turnG_n (g : GS) (ev k : Int) (j : Nat) : (turnG g ev k j).n = g.n := (turnG_rest g ev k j).1

theorem GM.turn {b : Nat} {base : Int} {g : GS} (h : GM b base g) {ev k : Int} {j : Nat} (hj : j ≤ g.n) : GM b base (turnG g ev k j) := by
  refine ⟨by rw [turnG_n]; exact h.n, ?_, fun i hi hn => by rw [turnG_kind]; rw [turnG_n] at hn; exact h.logs i hi hn⟩
  rcases h.bb with ⟨rfl, h1, h2⟩ | ⟨rfl, h1, h2, h3⟩
  · refine Or.inl ⟨rfl, h1, ?_⟩
    have : ∀ j, j ≤ g.n → (turnG g ev k j).c = g.c := by
      intro j
      induction j with
      | zero => intro _; rfl
      | succ j ih =>
        intro hj
        rw [turnG, turn1, if_neg (by rw [turnG_kind, h.logs j (by omega) (by omega)]; simp)]
        split <;> exact ih (by omega)
    rw [this j hj]; exact h2
  · exact Or.inr ⟨rfl, by rw [turnG_n]; exact h1, by rw [turnG_kind]; exact h2, h3⟩

set_option maxHeartbeats 4000000 in
set_option maxRecDepth 4000 in
theorem mturn_loop {w : World} {pd b cap : Nat} {base : Int} {g : GS} {lp : Option Addr} (h : MdAt w pd b base g lp cap) (hm : GM b base g) (ev k : Int) (fr : Nat) (hf : fr ≤ g.n) :
    Calls Try.prog 91 #[pt pd, .int .i64 ev, .int .i64 k, .int .i64 fr] w fun e w' => e = .returned (.tuple #[]) ∧ MdAt w' pd b base (turnG g ev k fr) lp cap ∧ Chg (pd :: ownB lp) w w' := by
  have H : Hid (MdAt w pd b base g lp cap) := h
  have HM : Hid (GM b base g) := hm
  have c8 : w.cell? ⟨pd, 8, none⟩ = some (.int .i64 base) := cell_of h.row rfl
  have c10 : w.cell? ⟨pd, 10, none⟩ = some (.bool g.c.full) := cell_of h.row rfl
  have c11 : w.cell? ⟨pd, 11, none⟩ = some (.int .i64 g.c.key) := cell_of h.row rfl
  have ff : ∀ i, w.frozen? ⟨pd, i, none⟩ = false := fun _ => frozen_of h.row
  have h4 := hm.n
  have loop : ∀ (bs nl : Nat) (W : World), bs + nl = fr → (0 < nl → bs = b) → MdAt W pd b base (turnG g ev k bs) lp cap → Chg (pd :: ownB lp) w W → True := fun _ _ _ _ _ _ _ => trivial
  clear loop
  have hcs : (b = 0 ∧ base = 0) ∨ (b = 1 ∧ (base != 0) = true ∧ fr = 0) ∨ (b = 1 ∧ (base != 0) = true ∧ 0 < fr ∧ g.kind 0 ≠ 1) := by
    rcases hm.bb with ⟨h1, h2, _⟩ | ⟨h1, h2, h3, h4⟩
    · exact Or.inl ⟨h1, h2⟩
    · have : (base != 0) = true := by simp; omega
      by_cases h0 : fr = 0
      · exact Or.inr (Or.inl ⟨h1, this, h0⟩)
      · exact Or.inr (Or.inr ⟨h1, this, by omega, by omega⟩)
  clear h hm
  rcases hcs with ⟨rfl, rfl⟩ | ⟨rfl, hb, rfl⟩ | ⟨rfl, hb, hfr, hk0⟩
  · go_enter Try.func91, Try.ntmps91
    go_wp2_with fail
    have hst : MdAt w pd 0 0 (turnG g ev k 0) lp cap := H.out
    have HST : Hid (MdAt w pd 0 0 (turnG g ev k 0) lp cap ∧ Chg (pd :: ownB lp) w w) := ⟨hst, Chg.refl _ _⟩
    clear hst c8 c10 c11 ff
    go_loopw [9] (fun v9 wr => ∃ j : Nat, j ≤ fr ∧ v9 = .int .i64 j ∧ MdAt wr pd 0 0 (turnG g ev k (0 + j)) lp cap ∧ Chg (pd :: ownB lp) w wr) (fun v9 _ => (((fr : Nat) : Int) - intOf v9).toNat)
    case atStart => exact ⟨0, by omega, rfl, HST.out.1, HST.out.2⟩
    case round =>
      obtain ⟨j, hj, rfl, hg, hc⟩ := hrel
      have HC : Hid (Chg (pd :: ownB lp) w wr) := hc
      have HG : Hid (MdAt wr pd 0 0 (turnG g ev k (0 + j)) lp cap) := hg
      by_cases hjf : j < fr
      · have hkd : (turnG g ev k (0 + j)).kind (0 + j) = 1 := by rw [turnG_kind]; exact HM.out.logs (0 + j) (by omega) (by omega)
        have hgn : (turnG g ev k (0 + j)).n = g.n := turnG_n _ _ _ _
        generalize hgg : turnG g ev k (0 + j) = g1 at hg hkd hgn
        have HE : Hid (turnG g ev k (0 + j) = g1) := hgg
        have hjn : j < g1.n - 0 := by rw [hgn]; omega
        obtain ⟨pl, cur, rfl, h1, h2, h3, hpl, h5⟩ := hg.pl hjn
        have hcap : j < cap := by omega
        have hsz : g1.n - 0 ≤ cap := h2.1
        have c13 : wr.cell? ⟨pd, 13, none⟩ = some (.slice (some ⟨pl, 0, none⟩) (g1.n - 0 : Nat) cap) := cell_of hg.row rfl
        have p0 : wr.cell? ⟨pl, j * 4, none⟩ = some (.int .i64 (g1.puts (0 + j))) := cell_of h1 (h5 j hjn).1
        have p1 : wr.cell? ⟨pl, j * 4 + 1, none⟩ = some (.int .i64 (g1.dels (0 + j))) := cell_of h1 (h5 j hjn).2.1
        have p2 : wr.cell? ⟨pl, j * 4 + 2, none⟩ = some (.int .i64 (g1.ev (0 + j))) := cell_of h1 (h5 j hjn).2.2.1
        have p3 : wr.cell? ⟨pl, j * 4 + 3, none⟩ = some (.int .i64 (g1.evk (0 + j))) := cell_of h1 (h5 j hjn).2.2.2
        have fp : ∀ i, wr.frozen? ⟨pl, i, none⟩ = false := fun _ => frozen_of h1
        have hpl2 : pd ≠ pl := hpl.symm
        have HG1 : Hid (MdAt wr pd 0 0 g1 (some ⟨pl, 0, none⟩) cap) := hg
        have HJ : Hid (j < g1.n - 0) := hjn
        clear hg hc hgg h1 h2 h3 h5
        by_cases hev : ev = 80
        · have e : turnG g ev k (0 + (j + 1)) = { g1 with puts := upd g1.puts (0 + j) (wrap64 (g1.puts (0 + j) + 1)), ev := upd g1.ev (0 + j) ev, evk := upd g1.evk (0 + j) k } := by
            show turn1 (turnG g ev k (0 + j)) ev k (0 + j) = _
            rw [HE.out, turn1, if_neg (fun q => q hkd), if_pos hev]
          have E : Hid (turnG g ev k (0 + (j + 1)) = { g1 with puts := upd g1.puts (0 + j) (wrap64 (g1.puts (0 + j) + 1)), ev := upd g1.ev (0 + j) ev, evk := upd g1.evk (0 + j) k }) := e
          have hev' : (ev == 80) = true := by simpa using hev
          clear e hev hkd
          go_wp2_with fail
          go_region
          all_goals
            go_wp2
            refine ⟨⟨j + 1, by omega, by simp, ?_, ?_⟩, by simp [intOf]; omega⟩
            · rw [E.out]
              have q := ((HG1.out.set_puts HJ.out (wrap64 (g1.puts (0 + j) + 1))).set_ev HJ.out ev).set_evk HJ.out k
              simp only [Nat.zero_add] at q ⊢
              exact ⟨q.row, q.logs, q.apart, q.lt⟩
            · exact (((HC.out.setCell (Or.inl (by simp [ownB])) _).setCell (Or.inl (by simp [ownB])) _).setCell (Or.inl (by simp [ownB])) _).drew
        · have e : turnG g ev k (0 + (j + 1)) = { g1 with dels := upd g1.dels (0 + j) (wrap64 (g1.dels (0 + j) + 1)), ev := upd g1.ev (0 + j) ev, evk := upd g1.evk (0 + j) k } := by
            show turn1 (turnG g ev k (0 + j)) ev k (0 + j) = _
            rw [HE.out, turn1, if_neg (fun q => q hkd), if_neg hev]
          have E : Hid (turnG g ev k (0 + (j + 1)) = { g1 with dels := upd g1.dels (0 + j) (wrap64 (g1.dels (0 + j) + 1)), ev := upd g1.ev (0 + j) ev, evk := upd g1.evk (0 + j) k }) := e
          have hev' : (ev == 80) = false := by simpa using hev
          clear e hev hkd
          go_wp2_with fail
          go_region
          all_goals
            go_wp2
            refine ⟨⟨j + 1, by omega, by simp, ?_, ?_⟩, by simp [intOf]; omega⟩
            · rw [E.out]
              have q := ((HG1.out.set_dels HJ.out (wrap64 (g1.dels (0 + j) + 1))).set_ev HJ.out ev).set_evk HJ.out k
              simp only [Nat.zero_add] at q ⊢
              exact ⟨q.row, q.logs, q.apart, q.lt⟩
            · exact (((HC.out.setCell (Or.inl (by simp [ownB])) _).setCell (Or.inl (by simp [ownB])) _).setCell (Or.inl (by simp [ownB])) _).drew
      · have EJ : Hid (0 + j = fr) := by show 0 + j = fr; omega
        clear hg hc
        go_wp2
        go_end0
        refine ⟨rfl, ?_, HC.out⟩
        rw [← EJ.out]
        exact HG.out
  · go_enter Try.func91, Try.ntmps91
    go_wp2_with fail
    have HST : Hid (MdAt w pd 1 base (turnG g ev k 0) lp cap ∧ Chg (pd :: ownB lp) w w) := ⟨H.out, Chg.refl _ _⟩
    clear c8 c10 c11 ff
    go_loopw [9] (fun v9 wr => v9 = .int .i64 0 ∧ wr = w) (fun v9 _ => 0)
    case atStart => exact ⟨rfl, rfl⟩
    case round =>
      obtain ⟨rfl, rfl⟩ := hrel
      go_wp2
      go_end0
      exact ⟨rfl, HST.out.1, HST.out.2⟩
  · have d1 : decide (0 < fr) = true := by simpa using hfr
    have efr : ((fr : Int) - 1) = ((fr - 1 : Nat) : Int) := by omega
    by_cases hky : k = g.c.key
    · have hky' : (k == g.c.key) = true := by simpa using hky
      have e1 : turnG g ev k 1 = { g with c := { g.c with full := false } } := by
        show turn1 g ev k 0 = _
        rw [turn1, if_pos hk0, if_pos hky.symm]
      have E1 : Hid (turnG g ev k 1 = { g with c := { g.c with full := false } }) := e1
      clear hky e1
      go_enter Try.func91, Try.ntmps91
      go_wp2_with fail
      have hst : MdAt (w.setCell ⟨pd, 10, none⟩ (.bool false)) pd 1 base (turnG g ev k 1) lp cap := by
        rw [E1.out]
        exact H.out.set (ms_full _ _ _ false) rfl (same4 g)
      have HST : Hid (MdAt (w.setCell ⟨pd, 10, none⟩ (.bool false)) pd 1 base (turnG g ev k 1) lp cap ∧ Chg (pd :: ownB lp) w (w.setCell ⟨pd, 10, none⟩ (.bool false))) := ⟨hst, (Chg.refl _ _).setCell (Or.inl (by simp)) _⟩
      clear hst c8 c10 c11 ff
      go_loopw [9] (fun v9 wr => ∃ j : Nat, j ≤ (fr - 1) ∧ v9 = .int .i64 j ∧ MdAt wr pd 1 base (turnG g ev k (1 + j)) lp cap ∧ Chg (pd :: ownB lp) w wr) (fun v9 _ => ((((fr - 1) : Nat) : Int) - intOf v9).toNat)
      case atStart => exact ⟨0, by omega, rfl, HST.out.1, HST.out.2⟩
      case round =>
        obtain ⟨j, hj, rfl, hg, hc⟩ := hrel
        have HC : Hid (Chg (pd :: ownB lp) w wr) := hc
        have HG : Hid (MdAt wr pd 1 base (turnG g ev k (1 + j)) lp cap) := hg
        by_cases hjf : j < (fr - 1)
        · have hkd : (turnG g ev k (1 + j)).kind (1 + j) = 1 := by rw [turnG_kind]; exact HM.out.logs (1 + j) (by omega) (by omega)
          have hgn : (turnG g ev k (1 + j)).n = g.n := turnG_n _ _ _ _
          generalize hgg : turnG g ev k (1 + j) = g1 at hg hkd hgn
          have HE : Hid (turnG g ev k (1 + j) = g1) := hgg
          have hjn : j < g1.n - 1 := by rw [hgn]; omega
          obtain ⟨pl, cur, rfl, h1, h2, h3, hpl, h5⟩ := hg.pl hjn
          have hcap : j < cap := by omega
          have hsz : g1.n - 1 ≤ cap := h2.1
          have c13 : wr.cell? ⟨pd, 13, none⟩ = some (.slice (some ⟨pl, 0, none⟩) (g1.n - 1 : Nat) cap) := cell_of hg.row rfl
          have p0 : wr.cell? ⟨pl, j * 4, none⟩ = some (.int .i64 (g1.puts (1 + j))) := cell_of h1 (h5 j hjn).1
          have p1 : wr.cell? ⟨pl, j * 4 + 1, none⟩ = some (.int .i64 (g1.dels (1 + j))) := cell_of h1 (h5 j hjn).2.1
          have p2 : wr.cell? ⟨pl, j * 4 + 2, none⟩ = some (.int .i64 (g1.ev (1 + j))) := cell_of h1 (h5 j hjn).2.2.1
          have p3 : wr.cell? ⟨pl, j * 4 + 3, none⟩ = some (.int .i64 (g1.evk (1 + j))) := cell_of h1 (h5 j hjn).2.2.2
          have fp : ∀ i, wr.frozen? ⟨pl, i, none⟩ = false := fun _ => frozen_of h1
          have hpl2 : pd ≠ pl := hpl.symm
          have HG1 : Hid (MdAt wr pd 1 base g1 (some ⟨pl, 0, none⟩) cap) := hg
          have HJ : Hid (j < g1.n - 1) := hjn
          clear hg hc hgg h1 h2 h3 h5
          by_cases hev : ev = 80
          · have e : turnG g ev k (1 + (j + 1)) = { g1 with puts := upd g1.puts (1 + j) (wrap64 (g1.puts (1 + j) + 1)), ev := upd g1.ev (1 + j) ev, evk := upd g1.evk (1 + j) k } := by
              show turn1 (turnG g ev k (1 + j)) ev k (1 + j) = _
              rw [HE.out, turn1, if_neg (fun q => q hkd), if_pos hev]
            have E : Hid (turnG g ev k (1 + (j + 1)) = { g1 with puts := upd g1.puts (1 + j) (wrap64 (g1.puts (1 + j) + 1)), ev := upd g1.ev (1 + j) ev, evk := upd g1.evk (1 + j) k }) := e
            have hev' : (ev == 80) = true := by simpa using hev
            clear e hev hkd
            go_wp2_with fail
            go_region
            all_goals
              go_wp2
              refine ⟨⟨j + 1, by omega, by simp, ?_, ?_⟩, by simp [intOf]; omega⟩
              · rw [E.out]
                have q := ((HG1.out.set_puts HJ.out (wrap64 (g1.puts (1 + j) + 1))).set_ev HJ.out ev).set_evk HJ.out k
                exact ⟨q.row, q.logs, q.apart, q.lt⟩
              · exact (((HC.out.setCell (Or.inl (by simp [ownB])) _).setCell (Or.inl (by simp [ownB])) _).setCell (Or.inl (by simp [ownB])) _).drew
          · have e : turnG g ev k (1 + (j + 1)) = { g1 with dels := upd g1.dels (1 + j) (wrap64 (g1.dels (1 + j) + 1)), ev := upd g1.ev (1 + j) ev, evk := upd g1.evk (1 + j) k } := by
              show turn1 (turnG g ev k (1 + j)) ev k (1 + j) = _
              rw [HE.out, turn1, if_neg (fun q => q hkd), if_neg hev]
            have E : Hid (turnG g ev k (1 + (j + 1)) = { g1 with dels := upd g1.dels (1 + j) (wrap64 (g1.dels (1 + j) + 1)), ev := upd g1.ev (1 + j) ev, evk := upd g1.evk (1 + j) k }) := e
            have hev' : (ev == 80) = false := by simpa using hev
            clear e hev hkd
            go_wp2_with fail
            go_region
            all_goals
              go_wp2
              refine ⟨⟨j + 1, by omega, by simp, ?_, ?_⟩, by simp [intOf]; omega⟩
              · rw [E.out]
                have q := ((HG1.out.set_dels HJ.out (wrap64 (g1.dels (1 + j) + 1))).set_ev HJ.out ev).set_evk HJ.out k
                exact ⟨q.row, q.logs, q.apart, q.lt⟩
              · exact (((HC.out.setCell (Or.inl (by simp [ownB])) _).setCell (Or.inl (by simp [ownB])) _).setCell (Or.inl (by simp [ownB])) _).drew
        · have EJ : Hid (1 + j = fr) := by show 1 + j = fr; omega
          clear hg hc
          go_wp2
          go_end0
          refine ⟨rfl, ?_, HC.out⟩
          rw [← EJ.out]
          exact HG.out
    · have hky' : (k == g.c.key) = false := by simpa using hky
      have e1 : turnG g ev k 1 = g := by
        show turn1 g ev k 0 = _
        rw [turn1, if_pos hk0, if_neg (fun e => hky e.symm)]
      have E1 : Hid (turnG g ev k 1 = g) := e1
      clear hky e1
      go_enter Try.func91, Try.ntmps91
      go_wp2_with fail
      have hst : MdAt w pd 1 base (turnG g ev k 1) lp cap := by rw [E1.out]; exact H.out
      have HST : Hid (MdAt w pd 1 base (turnG g ev k 1) lp cap ∧ Chg (pd :: ownB lp) w w) := ⟨hst, Chg.refl _ _⟩
      clear hst c8 c10 c11 ff
      go_loopw [9] (fun v9 wr => ∃ j : Nat, j ≤ (fr - 1) ∧ v9 = .int .i64 j ∧ MdAt wr pd 1 base (turnG g ev k (1 + j)) lp cap ∧ Chg (pd :: ownB lp) w wr) (fun v9 _ => ((((fr - 1) : Nat) : Int) - intOf v9).toNat)
      case atStart => exact ⟨0, by omega, rfl, HST.out.1, HST.out.2⟩
      case round =>
        obtain ⟨j, hj, rfl, hg, hc⟩ := hrel
        have HC : Hid (Chg (pd :: ownB lp) w wr) := hc
        have HG : Hid (MdAt wr pd 1 base (turnG g ev k (1 + j)) lp cap) := hg
        by_cases hjf : j < (fr - 1)
        · have hkd : (turnG g ev k (1 + j)).kind (1 + j) = 1 := by rw [turnG_kind]; exact HM.out.logs (1 + j) (by omega) (by omega)
          have hgn : (turnG g ev k (1 + j)).n = g.n := turnG_n _ _ _ _
          generalize hgg : turnG g ev k (1 + j) = g1 at hg hkd hgn
          have HE : Hid (turnG g ev k (1 + j) = g1) := hgg
          have hjn : j < g1.n - 1 := by rw [hgn]; omega
          obtain ⟨pl, cur, rfl, h1, h2, h3, hpl, h5⟩ := hg.pl hjn
          have hcap : j < cap := by omega
          have hsz : g1.n - 1 ≤ cap := h2.1
          have c13 : wr.cell? ⟨pd, 13, none⟩ = some (.slice (some ⟨pl, 0, none⟩) (g1.n - 1 : Nat) cap) := cell_of hg.row rfl
          have p0 : wr.cell? ⟨pl, j * 4, none⟩ = some (.int .i64 (g1.puts (1 + j))) := cell_of h1 (h5 j hjn).1
          have p1 : wr.cell? ⟨pl, j * 4 + 1, none⟩ = some (.int .i64 (g1.dels (1 + j))) := cell_of h1 (h5 j hjn).2.1
          have p2 : wr.cell? ⟨pl, j * 4 + 2, none⟩ = some (.int .i64 (g1.ev (1 + j))) := cell_of h1 (h5 j hjn).2.2.1
          have p3 : wr.cell? ⟨pl, j * 4 + 3, none⟩ = some (.int .i64 (g1.evk (1 + j))) := cell_of h1 (h5 j hjn).2.2.2
          have fp : ∀ i, wr.frozen? ⟨pl, i, none⟩ = false := fun _ => frozen_of h1
          have hpl2 : pd ≠ pl := hpl.symm
          have HG1 : Hid (MdAt wr pd 1 base g1 (some ⟨pl, 0, none⟩) cap) := hg
          have HJ : Hid (j < g1.n - 1) := hjn
          clear hg hc hgg h1 h2 h3 h5
          by_cases hev : ev = 80
          · have e : turnG g ev k (1 + (j + 1)) = { g1 with puts := upd g1.puts (1 + j) (wrap64 (g1.puts (1 + j) + 1)), ev := upd g1.ev (1 + j) ev, evk := upd g1.evk (1 + j) k } := by
              show turn1 (turnG g ev k (1 + j)) ev k (1 + j) = _
              rw [HE.out, turn1, if_neg (fun q => q hkd), if_pos hev]
            have E : Hid (turnG g ev k (1 + (j + 1)) = { g1 with puts := upd g1.puts (1 + j) (wrap64 (g1.puts (1 + j) + 1)), ev := upd g1.ev (1 + j) ev, evk := upd g1.evk (1 + j) k }) := e
            have hev' : (ev == 80) = true := by simpa using hev
            clear e hev hkd
            go_wp2_with fail
            go_region
            all_goals
              go_wp2
              refine ⟨⟨j + 1, by omega, by simp, ?_, ?_⟩, by simp [intOf]; omega⟩
              · rw [E.out]
                have q := ((HG1.out.set_puts HJ.out (wrap64 (g1.puts (1 + j) + 1))).set_ev HJ.out ev).set_evk HJ.out k
                exact ⟨q.row, q.logs, q.apart, q.lt⟩
              · exact (((HC.out.setCell (Or.inl (by simp [ownB])) _).setCell (Or.inl (by simp [ownB])) _).setCell (Or.inl (by simp [ownB])) _).drew
          · have e : turnG g ev k (1 + (j + 1)) = { g1 with dels := upd g1.dels (1 + j) (wrap64 (g1.dels (1 + j) + 1)), ev := upd g1.ev (1 + j) ev, evk := upd g1.evk (1 + j) k } := by
              show turn1 (turnG g ev k (1 + j)) ev k (1 + j) = _
              rw [HE.out, turn1, if_neg (fun q => q hkd), if_neg hev]
            have E : Hid (turnG g ev k (1 + (j + 1)) = { g1 with dels := upd g1.dels (1 + j) (wrap64 (g1.dels (1 + j) + 1)), ev := upd g1.ev (1 + j) ev, evk := upd g1.evk (1 + j) k }) := e
            have hev' : (ev == 80) = false := by simpa using hev
            clear e hev hkd
            go_wp2_with fail
            go_region
            all_goals
              go_wp2
              refine ⟨⟨j + 1, by omega, by simp, ?_, ?_⟩, by simp [intOf]; omega⟩
              · rw [E.out]
                have q := ((HG1.out.set_dels HJ.out (wrap64 (g1.dels (1 + j) + 1))).set_ev HJ.out ev).set_evk HJ.out k
                exact ⟨q.row, q.logs, q.apart, q.lt⟩
              · exact (((HC.out.setCell (Or.inl (by simp [ownB])) _).setCell (Or.inl (by simp [ownB])) _).setCell (Or.inl (by simp [ownB])) _).drew
        · have EJ : Hid (1 + j = fr) := by show 1 + j = fr; omega
          clear hg hc
          go_wp2
          go_end0
          refine ⟨rfl, ?_, HC.out⟩
          rw [← EJ.out]
          exact HG.out
end Go.Proofs.Qxb6500371a.W

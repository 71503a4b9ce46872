import Derived.Test.Qxb6500374aWm
set_option linter.unusedVariables false
set_option linter.unusedSimpArgs false
namespace Go.Proofs.Qxb6500374a.W
open Go.RowKit Go.Maps

theorem step_append_ex {P : Program} {ops : Array Oper} {o : Oper} {a : Act} {w : World} {K : Act → World → Prop} {Q : Exit → Act → World → Prop} {E : Prop} (hgd : o.guard = none) (s x : Operand) (t : TypeId)
    (ho : o.op = .call { callee := .builtin .append, args := #[s, x], argTypes := #[t, t] }) (vs vx : Value) (hs : a.eval s = vs) (hx : a.eval x = vx) {R : Value → World → Prop}
    (hr : ∃ v' w', (∀ ty, (Builtin.append_ #[t, t] ty #[vs, vx]).run P w = .ok v' w') ∧ R v' w') (h : ∀ v' w', R v' w' → K (a.put o.dst v') w') :
    if Region.wanted o (yielded ops a.tmps) = true then Oper.wp P o a w K Q else E := by
  have hw : Region.wanted o (yielded ops a.tmps) = true := by simp [Region.wanted, hgd]
  rw [if_pos hw]
  obtain ⟨v', w', hrun, hR⟩ := hr
  unfold Oper.wp execOp
  simp only [ho, resolve, invoke, builtin, Sem.run_bind, Sem.run_pure, Result.andThen_ok, List.map_toArray, List.map_cons, List.map_nil, hs, hx, hrun]
  exact h v' w' hR

/-- What Link leaves behind the append, whichever draws were made. -/
theorem link_mid {w W : World} {px pa ph : Nat} {B C : Nat → Nat} {S : WS} (h : WAt w px pa ph B C S) (ho : S.ok) {k m : Nat} (hk : k < 8) (hc : Chg [] w W) {lp : Option Addr} {cap bs : Nat} (hcase : (S.A k = [] ∧ lp = none ∧ cap = 0) ∨ (S.A k ≠ [] ∧ lp = some ⟨B k, 0, none⟩ ∧ cap = C k)) (h3 : (S.A k).length ≤ 3)
    (hbs : W.heap[bs]? = some (.cells #[.int .i64 m] 3 (0, 0))) :
    ∃ pl cap' w1, (∀ ty, (Builtin.append_ #[44, 44] ty #[.slice lp (S.A k).length cap, .slice (some ⟨bs, 0, none⟩) 1 1]).run Try.prog W = .ok (.slice (some ⟨pl, 0, none⟩) ((S.A k).length + 1) cap') w1) ∧ w1.cell? ⟨px, 0, none⟩ = some (.map (some pa)) ∧
      ∀ w1', Chg [] w1 w1' → w1'.heap.size = w1.heap.size → ∃ w2, (Instr.mapUpdate 39 (.map (some pa)) (.int .i64 k) (.slice (some ⟨pl, 0, none⟩) ((S.A k).length + 1) cap')).run Try.prog w1' = .ok () w2 ∧ WStp px pa ph B C S { S with A := updA S.A k (S.A k ++ [m]) } w w2 := by
  have hA := ho.aok
  have hlt := h.lt hA
  have hW := h.chg hA hc (by simp)
  have hsl : SlAt W lp (S.A k) cap := by
    rcases hcase with ⟨e1, e2, e3⟩ | ⟨e1, e2, e3⟩
    · exact Or.inl ⟨e1, e2, e3⟩
    · exact Or.inr ⟨B k, e2, by rw [e3]; exact hW.adj.row k e1⟩
  obtain ⟨pl, cap', w1, hr, hrow, hch, hpl⟩ := append_row (news := [m]) (Bk := bs) (o := 0) (c := 1) hsl (by simp) (by simp; omega) (by
    intro j hj
    simp at hj
    subst hj
    exact cell_of hbs rfl)
  have hown : ∀ x ∈ ownB lp, x ∈ adjB S.A B ∧ x = B k ∧ S.A k ≠ [] := by
    intro x hx
    rcases hcase with ⟨e1, rfl, e3⟩ | ⟨e1, rfl, e3⟩
    · simp [ownB] at hx
    · simp [ownB] at hx
      subst hx
      exact ⟨(mem_adjB hA).2 ⟨k, e1, rfl⟩, rfl, e1⟩
  have hpx : px ∉ ownB lp := fun hx => h.ap1 (by have := (hown _ hx).1; simp [this])
  have hpah : pa ∉ ownB lp := fun hx => by
    obtain ⟨_, e, e1⟩ := hown _ hx
    exact h.adj.apart k e1 e.symm
  have hph : ph ∉ ownB lp := fun hx => h.ap2 (by have := (hown _ hx).1; simp [this])
  refine ⟨pl, cap', w1, hr, cell_of (hch.keep hW.row hpx) rfl, fun w1' hc1 hs1 => ?_⟩
  have hch' : Chg (ownB lp) W w1' := hch.trans hc1.any
  have hplne : ∀ x ∈ wb px pa ph S.A B, x ∉ ownB lp → pl ≠ x := by
    intro x hx hn e
    subst e
    rcases hpl with e | e
    · exact hn e
    · have := hlt _ hx; have := hc.size; omega
  have hjn : ∀ j, j ≠ k → S.A j ≠ [] → B j ∉ ownB lp := fun j hj hne hx => by
    obtain ⟨_, e, e1⟩ := hown _ hx
    exact hj (h.adj.inj j k hne e1 e)
  have hwb : ∀ x, x ∈ adjB S.A B → x ∈ wb px pa ph S.A B := fun x hx => by simp [wb, hx]
  obtain ⟨w2, hr2, hadj, hc2⟩ := adj_put hW.adj hk (w1 := w1') (pl := pl) (cap' := cap') (l' := S.A k ++ [m]) (by simp) (by
      obtain ⟨es, c, e1, _⟩ := hW.adj.map
      rw [hch'.keep e1 hpah, e1]) (fun j hj hne => (hW.adj.row j hne).chg hch' (hjn j hj hne)) (hrow.chg hc1 (by simp)) (hplne pa (by simp [wb]) hpah)
    (fun j hj hne e => hplne (B j) (hwb _ ((mem_adjB hA).2 ⟨j, hne, rfl⟩)) (hjn j hj hne) e.symm)
  rw [List.length_append] at hr2
  have hcw : Chg (wb px pa ph S.A B) w w2 := by
    refine (hc.any.trans (hch'.mono (fun x hx => hwb x (hown x hx).1))).trans (hc2.mono (by simp [wb]))
  have hmem : ∀ x, x ∈ adjB (updA S.A k (S.A k ++ [m])) (updA B k pl) → x ∈ wb px pa ph S.A B ∨ w.heap.size ≤ x := by
    intro x hx
    unfold adjB at hx
    obtain ⟨j, hj, rfl⟩ := List.mem_map.1 hx
    by_cases e : j = k
    · subst e
      rw [updA_same]
      rcases hpl with e | e
      · exact Or.inl (hwb _ (hown _ e).1)
      · exact Or.inr (Nat.le_trans hc.size e)
    · rw [updA_ne _ _ e]
      simp [updA_ne _ _ e] at hj
      exact Or.inl (hwb _ ((mem_adjB hA).2 ⟨j, hj.2, rfl⟩))
  have hnot : ∀ y ∈ [px, ph], y ∉ adjB (updA S.A k (S.A k ++ [m])) (updA B k pl) := by
    intro y hy hx
    unfold adjB at hx
    obtain ⟨j, hj, hyj⟩ := List.mem_map.1 hx
    have hyw : y ∈ wb px pa ph S.A B := by simp at hy; rcases hy with rfl | rfl <;> simp [wb]
    by_cases e : j = k
    · subst e
      rw [updA_same] at hyj
      refine hplne y hyw ?_ hyj
      simp at hy
      rcases hy with rfl | rfl
      · exact hpx
      · exact hph
    · rw [updA_ne _ _ e] at hyj
      simp [updA_ne _ _ e] at hj
      have : y ∈ adjB S.A B := (mem_adjB hA).2 ⟨j, hj.2, hyj⟩
      simp at hy
      rcases hy with rfl | rfl
      · exact h.ap1 (by simp [this])
      · exact h.ap2 (by simp [this])
  have h1 := h.ap1
  have h2 := h.ap2
  simp only [List.mem_cons, not_or] at h1 h2
  refine ⟨w2, hr2, ⟨updA B k pl, updA C k cap', ⟨hc2.keep (hch'.keep hW.row hpx) (by simp; exact h1.1), hadj, (hW.hist.chg hch' hph).chg hc2 (by simp; exact h2.1), ?_, ?_⟩, ?_⟩, hcw⟩
  · simp only [List.mem_cons, not_or]
    exact ⟨h1.1, h1.2.1, hnot px (by simp)⟩
  · simp only [List.mem_cons, not_or]
    exact ⟨h2.1, hnot ph (by simp)⟩
  · intro x hx
    unfold wb at hx
    rcases List.mem_cons.1 hx with rfl | hx
    · exact Or.inl (by simp [wb])
    rcases List.mem_cons.1 hx with rfl | hx
    · exact Or.inl (by simp [wb])
    rcases List.mem_cons.1 hx with rfl | hx
    · exact Or.inl (by simp [wb])
    exact hmem x hx

def LinkR (px pa ph : Nat) (B C : Nat → Nat) (S : WS) (k m : Nat) (w : World) (v' : Value) (w1 : World) : Prop :=
  ∃ pl cap', v' = .slice (some ⟨pl, 0, none⟩) ((S.A k).length + 1) cap' ∧ w1.cell? ⟨px, 0, none⟩ = some (.map (some pa)) ∧
    ∃ w2, (Instr.mapUpdate 39 (.map (some pa)) (.int .i64 k) (.slice (some ⟨pl, 0, none⟩) ((S.A k).length + 1) cap')).run Try.prog w1 = .ok () w2 ∧ WStp px pa ph B C S { S with A := updA S.A k (S.A k ++ [m]) } w w2

set_option maxHeartbeats 4000000 in
set_option maxRecDepth 4000 in
theorem link_calls {w : World} {px pa ph : Nat} {B C : Nat → Nat} {S : WS} (h : WAt w px pa ph B C S) (ho : S.ok) (a b : Int) :
    Calls Try.prog 22 #[pt px, .int .i64 a, .int .i64 b] w fun x w' => x = .returned (.int .i64 (linkS S a b).1) ∧ WStp px pa ph B C S (linkS S a b).2 w w' := by
  have H : Hid (WAt w px pa ph B C S) := h
  have HO : Hid S.ok := ho
  have c0 : w.cell? ⟨px, 0, none⟩ = some (.map (some pa)) := cell_of h.row rfl
  cases ha : isN a with
  | false =>
    have e : linkS S a b = (1, S) := by rw [linkS, if_pos (Or.inl ha)]
    rw [e]
    have HN : Hid (isN a = false) := ha
    clear h ho e ha
    go_enter Try.func22, Try.ntmps22
    go_wp2_with fail
    refine (node_calls a w).mono ?_
    rintro x w2 ⟨rfl, hw2⟩
    obtain rfl : w = w2 := hw2.symm
    clear hw2
    rw [show (decide (0 ≤ a) && decide (a < 8)) = false from HN.out]
    go_wp2
    go_ret
    exact ⟨rfl, WStp.same H.out HO.out.aok (Chg.refl _ _)⟩
  | true =>
    have HN : Hid (isN a = true) := ha
    cases hb : isN b with
    | false =>
      have e : linkS S a b = (1, S) := by rw [linkS, if_pos (Or.inr hb)]
      rw [e]
      have HNb : Hid (isN b = false) := hb
      clear h ho e ha hb
      go_enter Try.func22, Try.ntmps22
      go_wp2_with fail
      refine (node_calls a w).mono ?_
      rintro x w2 ⟨rfl, hw2⟩
      obtain rfl : w = w2 := hw2.symm
      clear hw2
      rw [show (decide (0 ≤ a) && decide (a < 8)) = true from HN.out]
      go_wp2_with fail
      refine (node_calls b w).mono ?_
      rintro x w2 ⟨rfl, hw2⟩
      obtain rfl : w = w2 := hw2.symm
      clear hw2
      rw [show (decide (0 ≤ b) && decide (b < 8)) = false from HNb.out]
      go_wp2
      go_ret
      exact ⟨rfl, WStp.same H.out HO.out.aok (Chg.refl _ _)⟩
    | true =>
      have HNb : Hid (isN b = true) := hb
      obtain ⟨k, hk, rfl⟩ := isN_iff.1 ha
      obtain ⟨m, hm, rfl⟩ := isN_iff.1 hb
      obtain ⟨lp, cap, hlook, hcase⟩ := h.adj.look' k hk
      have hfs := findS_spec (S.A k) m
      have hl3 := ho.aok.len k
      have hun : linkS S k m = if m ∈ S.A k then (2, S) else if 3 ≤ (S.A k).length then (3, S) else (0, { S with A := updA S.A k (S.A k ++ [m]) }) := by
        rw [linkS, if_neg (by simp [ha, hb])]
        simp
      have HCS : Hid ((S.A k = [] ∧ lp = none ∧ cap = 0) ∨ (S.A k ≠ [] ∧ lp = some ⟨B k, 0, none⟩ ∧ cap = C k)) := by
        rcases hcase with ⟨e1, e2, e3⟩ | ⟨e1, e2, e3, _⟩
        · exact Or.inl ⟨e1, e2, e3⟩
        · exact Or.inr ⟨e1, e2, e3⟩
      have HFD : Hid (S.A k = [] ∨ ∃ b, lp = some ⟨b, 0, none⟩ ∧ RowAt w b (S.A k) cap) := by
        rcases hcase with ⟨e1, e2, e3⟩ | ⟨e1, e2, e3, e4⟩
        · exact Or.inl e1
        · exact Or.inr ⟨B k, e2, by rw [e3]; exact e4⟩
      clear hcase ha hb
      by_cases hmem : m ∈ S.A k
      · rw [hun, if_pos hmem]
        obtain ⟨j, hfj⟩ : ∃ j : Nat, findS (S.A k) m = j := by
          rcases hfs with ⟨_, e⟩ | ⟨j, _, e, _⟩
          · exact absurd hmem e
          · exact ⟨j, e⟩
        have HJ : Hid (findS (S.A k) m = j) := hfj
        clear h ho hun hfs hmem hfj
        go_enter Try.func22, Try.ntmps22
        go_wp2_with fail
        refine (node_calls k w).mono ?_
        rintro x w2 ⟨rfl, hw2⟩
        obtain rfl : w = w2 := hw2.symm
        clear hw2
        rw [show (decide (0 ≤ (k : Int)) && decide ((k : Int) < 8)) = true from HN.out]
        go_wp2_with fail
        refine (node_calls m w).mono ?_
        rintro x w2 ⟨rfl, hw2⟩
        obtain rfl : w = w2 := hw2.symm
        clear hw2
        rw [show (decide (0 ≤ (m : Int)) && decide ((m : Int) < 8)) = true from HNb.out]
        go_wp2_with fail
        refine (find_calls HFD.out (by omega) m).mono ?_
        rintro x w2 ⟨rfl, hw2⟩
        obtain rfl : w = w2 := hw2.symm
        clear hw2
        rw [HJ.out]
        go_wp2
        go_ret
        exact ⟨rfl, WStp.same H.out HO.out.aok (Chg.refl _ _)⟩
      · have hfj : findS (S.A k) m = -1 := by
          rcases hfs with ⟨e, _⟩ | ⟨j, hj, _, e, _⟩
          · exact e
          · exact absurd (by rw [← e]; exact List.getElem_mem hj) hmem
        have HJ : Hid (findS (S.A k) m = -1) := hfj
        by_cases hfull : 3 ≤ (S.A k).length
        · rw [hun, if_neg hmem, if_pos hfull]
          clear h ho hun hfs hmem hfj
          go_enter Try.func22, Try.ntmps22
          go_wp2_with fail
          refine (node_calls k w).mono ?_
          rintro x w2 ⟨rfl, hw2⟩
          obtain rfl : w = w2 := hw2.symm
          clear hw2
          rw [show (decide (0 ≤ (k : Int)) && decide ((k : Int) < 8)) = true from HN.out]
          go_wp2_with fail
          refine (node_calls m w).mono ?_
          rintro x w2 ⟨rfl, hw2⟩
          obtain rfl : w = w2 := hw2.symm
          clear hw2
          rw [show (decide (0 ≤ (m : Int)) && decide ((m : Int) < 8)) = true from HNb.out]
          go_wp2_with fail
          refine (find_calls HFD.out (by omega) m).mono ?_
          rintro x w2 ⟨rfl, hw2⟩
          obtain rfl : w = w2 := hw2.symm
          clear hw2
          rw [HJ.out]
          go_wp2
          go_ret
          exact ⟨rfl, WStp.same H.out HO.out.aok (Chg.refl _ _)⟩
        · rw [hun, if_neg hmem, if_neg hfull]
          have HMID0 : Hid (∀ (W : World) (bs : Nat), Chg [] w W → W.heap[bs]? = some (.cells #[.int .i64 m] 3 (0, 0)) →
              ∃ pl cap' w1, (∀ ty, (Builtin.append_ #[44, 44] ty #[.slice lp (S.A k).length cap, .slice (some ⟨bs, 0, none⟩) 1 1]).run Try.prog W = .ok (.slice (some ⟨pl, 0, none⟩) ((S.A k).length + 1) cap') w1) ∧ w1.cell? ⟨px, 0, none⟩ = some (.map (some pa)) ∧
              ∀ w1', Chg [] w1 w1' → w1'.heap.size = w1.heap.size → ∃ w2, (Instr.mapUpdate 39 (.map (some pa)) (.int .i64 k) (.slice (some ⟨pl, 0, none⟩) ((S.A k).length + 1) cap')).run Try.prog w1' = .ok () w2 ∧ WStp px pa ph B C S { S with A := updA S.A k (S.A k ++ [m]) } w w2) :=
            fun W bs hc hbs => link_mid H.out HO.out hk hc HCS.out hl3 hbs
          have HMID : Hid (∀ (W : World) (bs : Nat), Chg [] w W → W.heap[bs]? = some (.cells #[.int .i64 m] 3 (0, 0)) →
              ∃ v' w1, (∀ ty, (Builtin.append_ #[44, 44] ty #[.slice lp (S.A k).length cap, .slice (some ⟨bs, 0, none⟩) 1 1]).run Try.prog W = .ok v' w1) ∧ LinkR px pa ph B C S k m w v' w1) := by
            intro W bs hc hbs
            obtain ⟨pl, cap', w1, h1, h2, h3⟩ := HMID0.out W bs hc hbs
            obtain ⟨w2, h4, h5⟩ := h3 w1 (Chg.refl _ _) rfl
            exact ⟨_, w1, h1, pl, cap', rfl, h2, w2, h4, h5⟩
          clear HMID0
          have hpx : px < w.heap.size := lt_of h.row
          have hpn : px ≠ w.heap.size := by omega
          have c0' : (w.alloc (.cells #[.int .i64 m] 3)).cell? ⟨px, 0, none⟩ = some (.map (some pa)) := cell_of (Chg.keep (bs := []) ((Chg.refl _ _).alloc _) h.row (by simp)) rfl
          have d3 : decide (3 ≤ (S.A k).length) = false := by simp; omega
          clear h ho hun hfs hmem hfj
          go_enter Try.func22, Try.ntmps22
          go_wp2_with fail
          refine (node_calls k w).mono ?_
          rintro x w2 ⟨rfl, hw2⟩
          obtain rfl : w = w2 := hw2.symm
          clear hw2
          rw [show (decide (0 ≤ (k : Int)) && decide ((k : Int) < 8)) = true from HN.out]
          go_wp2_with fail
          refine (node_calls m w).mono ?_
          rintro x w2 ⟨rfl, hw2⟩
          obtain rfl : w = w2 := hw2.symm
          clear hw2
          rw [show (decide (0 ≤ (m : Int)) && decide ((m : Int) < 8)) = true from HNb.out]
          go_wp2_with fail
          refine (find_calls HFD.out (by omega) m).mono ?_
          rintro x w2 ⟨rfl, hw2⟩
          obtain rfl : w = w2 := hw2.symm
          clear hw2
          rw [HJ.out]
          go_wp2
          go_region_law ((refine step_append_ex (by rfl) _ _ _ (by rfl) _ _ (by rfl) (by rfl) (HMID.out _ _ (by first | exact (Chg.refl _ _).drew.alloc _ | exact (Chg.refl _ _).alloc _) (by first | exact heap_alloc_new _ _ | (have := heap_alloc_new w.drew (.cells #[.int .i64 m] 3); exact this))) ?_; rintro _ w1 ⟨pl, cap', rfl, hc1, w2, hr2, hst2⟩))
          all_goals
            go_wp2
            go_ret
            exact ⟨rfl, hst2⟩
end Go.Proofs.Qxb6500374a.W

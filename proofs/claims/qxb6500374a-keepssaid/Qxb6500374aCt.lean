import Derived.Test.Qxb6500374aPr
set_option linter.unusedVariables false
set_option linter.unusedSimpArgs false
namespace Go.Proofs.Qxb6500374a.W
open Go.RowKit Go.Maps

/-- 'append', also of nothing. -/
theorem append_any {w : World} {lp : Option Addr} {l news : List Nat} {cap Bk o c : Nat} (h : SlAt w lp l cap) (hs : l.length + news.length ≤ 100) (hB : ∀ j, (hj : j < news.length) → w.cell? ⟨Bk, o + j, none⟩ = some (.int .i64 (news[j] : Nat))) :
    ∃ lp' cap' w', (∀ ty, (Builtin.append_ #[44, 44] ty #[.slice lp l.length cap, .slice (some ⟨Bk, o, none⟩) news.length c]).run Try.prog w = .ok (.slice lp' (l.length + news.length) cap') w') ∧ SlAt w' lp' (l ++ news) cap' ∧ Chg (ownB lp) w w' ∧ ∀ b ∈ ownB lp', b ∈ ownB lp ∨ w.heap.size ≤ b := by
  rcases Nat.eq_zero_or_pos news.length with h0 | h0
  · have hn : news = [] := List.length_eq_zero_iff.1 h0
    subst hn
    obtain ⟨i, hi, hz0, hz1, hz2⟩ := info_parts info3
    refine ⟨lp, cap, w, fun ty => ?_, by simpa using h, Chg.refl _ _, fun b hb => Or.inl hb⟩
    have hcap : l.length ≤ cap := by
      rcases h with ⟨rfl, rfl, rfl⟩ | ⟨b, rfl, cur, h1, h2, _⟩
      · simp
      · exact h2
    have hsz : (sizeOf 3).run Try.prog w = .ok 1 w := by kernel_rfl
    cases lp with
    | none => simp [Builtin.append_, run_underlying Try.underlying44, hsz, Builtin.lenOf, Builtin.firstCells, hcap, loadCells, loadCellsFrom, storeCells]
    | some a => simp [Builtin.append_, run_underlying Try.underlying44, hsz, Builtin.lenOf, Builtin.firstCells, hcap, loadCells, loadCellsFrom, storeCells]
  · obtain ⟨pl, cap', w', h1, h2, h3, h4⟩ := append_row (c := c) h h0 hs hB
    exact ⟨_, cap', w', h1, Or.inr ⟨pl, rfl, h2⟩, h3, by intro b hb; simp [ownB] at hb; subst hb; exact h4⟩

theorem put_mid {w w1 : World} {px pa ph : Nat} {B C : Nat → Nat} {S : WS} (h : WAt w px pa ph B C S) (ho : S.ok) {k : Nat} (hk : k < 8) (hc : Chg [] w w1) {pl cap' : Nat} {l' : List Nat} (hl : l' ≠ []) (hrow : RowAt w1 pl l' cap') (hpl : w.heap.size ≤ pl) :
    ∃ w2, (Instr.mapUpdate 39 (.map (some pa)) (.int .i64 k) (.slice (some ⟨pl, 0, none⟩) l'.length cap')).run Try.prog w1 = .ok () w2 ∧ WStp px pa ph B C S { S with A := updA S.A k l' } w w2 := by
  have hA := ho.aok
  have hlt := h.lt hA
  have hW := h.chg hA hc (by simp)
  have hwb : ∀ x, x ∈ adjB S.A B → x ∈ wb px pa ph S.A B := fun x hx => by simp [wb, hx]
  have hne : ∀ x ∈ wb px pa ph S.A B, pl ≠ x := fun x hx e => by have := hlt x hx; omega
  obtain ⟨w2, hr2, hadj, hc2⟩ := adj_put hW.adj hk (w1 := w1) (pl := pl) (cap' := cap') hl rfl (fun j hj hne => hW.adj.row j hne) hrow (hne pa (by simp [wb])) (fun j hj hnj e => hne (B j) (hwb _ ((mem_adjB hA).2 ⟨j, hnj, rfl⟩)) e.symm)
  have hmem : ∀ x, x ∈ adjB (updA S.A k l') (updA B k pl) → x ∈ adjB S.A B ∨ x = pl := by
    intro x hx
    unfold adjB at hx
    obtain ⟨j, hj, rfl⟩ := List.mem_map.1 hx
    by_cases e : j = k
    · subst e
      rw [updA_same]
      exact Or.inr rfl
    · rw [updA_ne _ _ e]
      simp [updA_ne _ _ e] at hj
      exact Or.inl ((mem_adjB hA).2 ⟨j, hj.2, rfl⟩)
  have h1 := h.ap1
  have h2 := h.ap2
  simp only [List.mem_cons, not_or] at h1 h2
  refine ⟨w2, hr2, ⟨updA B k pl, updA C k cap', ⟨hc2.keep hW.row (by simp; exact h1.1), hadj, hW.hist.chg hc2 (by simp; exact h2.1), ?_, ?_⟩, ?_⟩, hc.any.trans (hc2.mono (by simp [wb]))⟩
  · simp only [List.mem_cons, not_or]
    refine ⟨h1.1, h1.2.1, fun hx => ?_⟩
    rcases hmem _ hx with e | e
    · exact h1.2.2 e
    · exact hne px (by simp [wb]) e.symm
  · simp only [List.mem_cons, not_or]
    refine ⟨h2.1, fun hx => ?_⟩
    rcases hmem _ hx with e | e
    · exact h2.2 e
    · exact hne ph (by simp [wb]) e.symm
  · intro x hx
    unfold wb at hx
    rcases List.mem_cons.1 hx with rfl | hx
    · exact Or.inl (by simp [wb])
    rcases List.mem_cons.1 hx with rfl | hx
    · exact Or.inl (by simp [wb])
    rcases List.mem_cons.1 hx with rfl | hx
    · exact Or.inl (by simp [wb])
    rcases hmem x hx with e | e
    · exact Or.inl (hwb _ e)
    · exact Or.inr (by omega)

/-- 'delete(w.adj, k)'. -/
theorem del_mid {w : World} {px pa ph : Nat} {B C : Nat → Nat} {S : WS} (h : WAt w px pa ph B C S) (ho : S.ok) {k : Nat} (hk : k < 8) :
    ∃ w2, (∀ ty, (Builtin.delete_ #[39, 3] ty #[.map (some pa), .int .i64 k]).run Try.prog w = .ok (.tuple #[]) w2) ∧ WStp px pa ph B C S { S with A := updA S.A k [] } w w2 := by
  have hA := ho.aok
  obtain ⟨es, c, m1, m2, m3, m4⟩ := h.adj.map
  obtain ⟨w2, es', hr, hb, hc, _, hes⟩ := run_del m1 m2 Try.underlying39 k hk
  have hmem : ∀ x, x ∈ es'.toList ↔ x ∈ es.toList ∧ kn x ≠ k := fun x => by rw [hes, List.mem_filter]; simp
  have hsub : ∀ x, x ∈ adjB (updA S.A k []) B → x ∈ adjB S.A B := by
    intro x hx
    unfold adjB at hx
    obtain ⟨j, hj, rfl⟩ := List.mem_map.1 hx
    by_cases e : j = k
    · subst e
      simp [updA_same] at hj
    · simp [updA_ne _ _ e] at hj
      exact (mem_adjB hA).2 ⟨j, hj.2, rfl⟩
  have hne : ∀ j, updA S.A k [] j ≠ [] → j ≠ k ∧ S.A j ≠ [] := by
    intro j hj
    by_cases e : j = k
    · subst e; rw [updA_same] at hj; exact absurd rfl hj
    · rw [updA_ne _ _ e] at hj; exact ⟨e, hj⟩
  have hadj : AdjAt w2 pa (updA S.A k []) B C := by
    refine ⟨⟨es', c, hb, ⟨fun e he => m2.key e ((hmem e).1 he).1, ?_, fun e he => m2.born e ((hmem e).1 he).1, ?_⟩, ?_, ?_⟩, ?_, ?_, ?_⟩
    · rw [hes]; exact m2.one.sublist (List.Sublist.map _ List.filter_sublist)
    · rw [hes]; exact m2.stamp.sublist (List.Sublist.map _ List.filter_sublist)
    · intro e he
      obtain ⟨e1, e2⟩ := (hmem e).1 he
      rw [adjV, updA_ne _ _ e2]
      exact m3 e e1
    · intro j hj
      obtain ⟨e1, e2⟩ := hne j hj
      obtain ⟨e, he, hke⟩ := List.mem_map.1 (m4 j e2)
      rw [← hke]
      exact List.mem_map_of_mem ((hmem e).2 ⟨he, by rw [hke]; exact e1⟩)
    · intro j hj
      obtain ⟨e1, e2⟩ := hne j hj
      rw [updA_ne _ _ e1]
      exact (h.adj.row j e2).chg hc (by simp; exact h.adj.apart j e2)
    · intro j hj; exact h.adj.apart j (hne j hj).2
    · intro i j hi hj; exact h.adj.inj i j (hne i hi).2 (hne j hj).2
  have h1 := h.ap1
  have h2 := h.ap2
  simp only [List.mem_cons, not_or] at h1 h2
  refine ⟨w2, hr, ⟨B, C, ⟨hc.keep h.row (by simp; exact h1.1), hadj, h.hist.chg hc (by simp; exact h2.1), ?_, ?_⟩, ?_⟩, hc.mono (by simp [wb])⟩
  · simp only [List.mem_cons, not_or]
    exact ⟨h1.1, h1.2.1, fun hx => h1.2.2 (hsub _ hx)⟩
  · simp only [List.mem_cons, not_or]
    exact ⟨h2.1, fun hx => h2.2 (hsub _ hx)⟩
  · intro x hx
    left
    unfold wb at hx ⊢
    rcases List.mem_cons.1 hx with rfl | hx
    · simp
    rcases List.mem_cons.1 hx with rfl | hx
    · simp
    rcases List.mem_cons.1 hx with rfl | hx
    · simp
    simp [hsub x hx]

/-- Cut, plainly. -/
def cutS (S : WS) (a b : Int) : Int × WS :=
  if isN a = false ∨ isN b = false then (1, S)
  else if b.toNat ∈ S.A a.toNat then (0, { S with A := updA S.A a.toNat ((S.A a.toNat).erase b.toNat) }) else (4, S)

theorem erase_at {l : List Nat} {j m : Nat} (hj : j < l.length) (e : l[j] = m) (hf : ∀ i, i < j → (h : i < l.length) → l[i] ≠ m) : l.take j ++ l.drop (j + 1) = l.erase m := by
  have hs : l = l.take j ++ m :: l.drop (j + 1) := by rw [← e, List.getElem_cons_drop, List.take_append_drop]
  have hn : m ∉ l.take j := by
    intro hm
    obtain ⟨i, hi, e'⟩ := List.getElem_of_mem hm
    simp at hi
    rw [List.getElem_take] at e'
    exact hf i (by omega) (by omega) e'
  conv => rhs; rw [hs]
  rw [List.erase_append_right _ hn, List.erase_cons_head]

theorem sl_hi (bk n cap i : Nat) (hi : i ≤ cap) (w : World) : (Instr.sliceAt 44 (.slice (some ⟨bk, 0, none⟩) n cap) none (some (.int .i64 (i : Int))) none).run Try.prog w = .ok (.slice (some ⟨bk, 0, none⟩) i cap) w := by
  have hsz : (sizeOf 3).run Try.prog w = .ok 1 w := by kernel_rfl
  have he : Try.prog.elem 44 = 3 := by kernel_rfl
  have hu : Try.prog.underlying 44 = some (.slice (Try.prog.elem 44)) := by rw [he]; exact Try.underlying44
  rw [run_sliceAt_slice _ _ _ _ _ _ hu, run_slice_h _ _ _ _ _ hu .i64 i (by omega) (by omega), he, hsz]
  simp [sliced, Result.andThen, Addr.add]
def lowO (cap l : Nat) : Nat := if cap = l then 0 else l
theorem sl_lo (bk n cap l : Nat) (hi : l ≤ n) (w : World) : (Instr.sliceAt 44 (.slice (some ⟨bk, 0, none⟩) n cap) (some (.int .i64 (l : Int))) none none).run Try.prog w = .ok (.slice (some ⟨bk, lowO cap l, none⟩) (n - l) (cap - l)) w := by
  have hsz : (sizeOf 3).run Try.prog w = .ok 1 w := by kernel_rfl
  have he : Try.prog.elem 44 = 3 := by kernel_rfl
  have hu : Try.prog.underlying 44 = some (.slice (Try.prog.elem 44)) := by rw [he]; exact Try.underlying44
  rw [run_sliceAt_slice _ _ _ _ _ _ hu, run_slice_l _ _ _ _ _ hu .i64 l (by omega) (by omega), he, hsz]
  simp only [sliced, Result.andThen, lowO, Int.toNat_natCast]
  split
  · simp [Addr.add]
  · simp [Addr.add]
    omega

def CutR (px pa ph : Nat) (B C : Nat → Nat) (S : WS) (k : Nat) (l' : List Nat) (w : World) (v' : Value) (w1 : World) : Prop :=
  ∃ pl cap', v' = .slice (some ⟨pl, 0, none⟩) l'.length cap' ∧ w1.cell? ⟨px, 0, none⟩ = some (.map (some pa)) ∧
    ∃ w2, (Instr.mapUpdate 39 (.map (some pa)) (.int .i64 k) (.slice (some ⟨pl, 0, none⟩) l'.length cap')).run Try.prog w1 = .ok () w2 ∧ WStp px pa ph B C S { S with A := updA S.A k l' } w w2

set_option maxHeartbeats 4000000 in
set_option maxRecDepth 4000 in
theorem cut_calls {w : World} {px pa ph : Nat} {B C : Nat → Nat} {S : WS} (h : WAt w px pa ph B C S) (ho : S.ok) (a b : Int) :
    Calls Try.prog 55 #[pt px, .int .i64 a, .int .i64 b] w fun x w' => x = .returned (.int .i64 (cutS S a b).1) ∧ WStp px pa ph B C S (cutS S a b).2 w w' := by
  have H : Hid (WAt w px pa ph B C S) := h
  have HO : Hid S.ok := ho
  have c0 : w.cell? ⟨px, 0, none⟩ = some (.map (some pa)) := cell_of h.row rfl
  cases ha : isN a with
  | false =>
    have e : cutS S a b = (1, S) := by rw [cutS, if_pos (Or.inl ha)]
    rw [e]
    have HN : Hid (isN a = false) := ha
    clear h ho e ha
    go_enter Try.func55, Try.ntmps55
    go_wp2_with fail
    refine (node_calls a w).mono ?_
    rintro x w2 ⟨rfl, hw2⟩
    obtain rfl : w = w2 := hw2.symm
    clear hw2
    rw [show (decide (0 ≤ a) && decide (a < 8)) = false from HN.out]
    go_wp2
    go_ret
    exact ⟨rfl, WStp.same H.out HO.out.aok (Chg.refl _ _)⟩
  | true =>
    have HN : Hid (isN a = true) := ha
    cases hb : isN b with
    | false =>
      have e : cutS S a b = (1, S) := by rw [cutS, if_pos (Or.inr hb)]
      rw [e]
      have HNb : Hid (isN b = false) := hb
      clear h ho e ha hb
      go_enter Try.func55, Try.ntmps55
      go_wp2_with fail
      refine (node_calls a w).mono ?_
      rintro x w2 ⟨rfl, hw2⟩
      obtain rfl : w = w2 := hw2.symm
      clear hw2
      rw [show (decide (0 ≤ a) && decide (a < 8)) = true from HN.out]
      go_wp2_with fail
      refine (node_calls b w).mono ?_
      rintro x w2 ⟨rfl, hw2⟩
      obtain rfl : w = w2 := hw2.symm
      clear hw2
      rw [show (decide (0 ≤ b) && decide (b < 8)) = false from HNb.out]
      go_wp2
      go_ret
      exact ⟨rfl, WStp.same H.out HO.out.aok (Chg.refl _ _)⟩
    | true =>
      have HNb : Hid (isN b = true) := hb
      obtain ⟨k, hk, rfl⟩ := isN_iff.1 ha
      obtain ⟨m, hm, rfl⟩ := isN_iff.1 hb
      obtain ⟨lp, cap, hlook, hcase⟩ := h.adj.look' k hk
      have hfs := findS_spec (S.A k) m
      have hl3 := ho.aok.len k
      have hun : cutS S k m = if m ∈ S.A k then (0, { S with A := updA S.A k ((S.A k).erase m) }) else (4, S) := by
        rw [cutS, if_neg (by simp [ha, hb])]
        simp
      have HFD : Hid (S.A k = [] ∨ ∃ b, lp = some ⟨b, 0, none⟩ ∧ RowAt w b (S.A k) cap) := by
        rcases hcase with ⟨e1, e2, e3⟩ | ⟨e1, e2, e3, e4⟩
        · exact Or.inl e1
        · exact Or.inr ⟨B k, e2, by rw [e3]; exact e4⟩
      clear ha hb
      by_cases hmem : m ∈ S.A k
      · rw [hun, if_pos hmem]
        obtain ⟨j, hj, hfj, hjm, hjf⟩ : ∃ j, ∃ h : j < (S.A k).length, findS (S.A k) m = j ∧ (S.A k)[j] = m ∧ ∀ i, i < j → (h : i < (S.A k).length) → (S.A k)[i] ≠ m := by
          rcases hfs with ⟨_, e⟩ | hx
          · exact absurd hmem e
          · exact hx
        have HJ : Hid (findS (S.A k) m = j) := hfj
        have her := erase_at hj hjm hjf
        have hne : S.A k ≠ [] := fun e => by rw [e] at hmem; cases hmem
        rcases hcase with ⟨e1, _⟩ | ⟨_, rfl, rfl, hrow⟩
        · exact absurd e1 hne
        by_cases h1 : (S.A k).length = 1
        · have hl0 : (S.A k).erase m = [] := by
            have := List.length_erase_of_mem hmem
            exact List.length_eq_zero_iff.1 (by omega)
          rw [hl0]
          obtain ⟨w2, hdel, hst⟩ := del_mid h ho hk
          have HST : Hid (WStp px pa ph B C S { S with A := updA S.A k [] } w w2) := hst
          have d1 : (((S.A k).length : Int) == 1) = true := by simp [h1]
          clear h ho hun hfs hmem hfj her hne hrow hst hl0 hjm hjf h1
          go_enter Try.func55, Try.ntmps55
          go_wp2_with fail
          refine (node_calls k w).mono ?_
          rintro x w2 ⟨rfl, hw2⟩
          obtain rfl : w = w2 := hw2.symm
          clear hw2
          rw [show (decide (0 ≤ (k : Int)) && decide ((k : Int) < 8)) = true from HN.out]
          go_wp2_with fail
          refine (node_calls m w).mono ?_
          rintro x w2 ⟨rfl, hw2⟩
          obtain rfl : w = w2 := hw2.symm
          clear hw2
          rw [show (decide (0 ≤ (m : Int)) && decide ((m : Int) < 8)) = true from HNb.out]
          go_wp2_with fail
          refine (find_calls HFD.out (by omega) m).mono ?_
          rintro x w2 ⟨rfl, hw2⟩
          obtain rfl : w = w2 := hw2.symm
          clear hw2
          rw [HJ.out]
          go_wp2
          go_ret
          exact ⟨rfl, HST.out⟩
        · have hcapk : (S.A k).length ≤ C k := by obtain ⟨_, _, e, _⟩ := hrow; exact e
          have hrl := hrow.lt
          have hlen2 : ((S.A k).erase m).length = (S.A k).length - 1 := List.length_erase_of_mem hmem
          have hl0 : (S.A k).erase m ≠ [] := by
            intro e
            rw [e] at hlen2
            simp at hlen2
            omega
          have s1 := sl_hi (B k) (S.A k).length (C k) j (by omega) w
          -- the first append
          have hte : (List.take j (S.A k)).length = j := by simp; omega
          have hde : (List.drop (j + 1) (S.A k)).length = (S.A k).length - (j + 1) := by simp
          obtain ⟨lpN, capN, w9, hap, hsl9, hc9, hown9⟩ := append_any (w := w) (lp := none) (l := []) (news := (S.A k).take j) (cap := 0) (Bk := B k) (o := 0) (c := C k) (Or.inl ⟨rfl, rfl, rfl⟩) (by simp; omega) (by
            intro i hi
            rw [List.getElem_take, Nat.zero_add]
            exact hrow.cell (by omega))
          rw [hte] at hap
          simp only [List.length_nil, Nat.zero_add, List.nil_append] at hap hsl9
          have hc9' : Chg [] w w9 := hc9
          have hW9 := h.chg ho.aok hc9' (by simp)
          have c9 : w9.cell? ⟨px, 0, none⟩ = some (.map (some pa)) := cell_of hW9.row rfl
          have s2 : ∀ W : World, (Instr.sliceAt 44 (.slice (some ⟨B k, 0, none⟩) (S.A k).length (C k)) (some (.int .i64 ((j : Int) + 1))) none none).run Try.prog W = .ok (.slice (some ⟨B k, lowO (C k) (j + 1), none⟩) ((S.A k).length - (j + 1)) (C k - (j + 1))) W := fun W => sl_lo (B k) (S.A k).length (C k) (j + 1) (by omega) W
          have s2a := s2 w9
          have s2b := s2 w9.drew
          have HMID : Hid (∀ W : World, Chg [] w9 W → ∃ v' w1, (∀ ty, (Builtin.append_ #[44, 44] ty #[.slice lpN j capN, .slice (some ⟨B k, lowO (C k) (j + 1), none⟩) ((S.A k).length - (j + 1)) (C k - (j + 1))]).run Try.prog W = .ok v' w1) ∧ CutR px pa ph B C S k ((S.A k).erase m) w v' w1) := by
            intro W hW
            have hslW : SlAt W lpN ((S.A k).take j) capN := by
              rcases hsl9 with h1 | ⟨b, e, hr⟩
              · exact Or.inl h1
              · exact Or.inr ⟨b, e, hr.chg hW (by simp)⟩
            have hWA := h.chg ho.aok (hc9'.trans hW) (by simp)
            obtain ⟨lp2, cap2, w1, hap2, hsl2, hc2, hown2⟩ := append_any (w := W) (news := (S.A k).drop (j + 1)) (Bk := B k) (o := lowO (C k) (j + 1)) (c := C k - (j + 1)) hslW (by simp; omega) (by
              intro i hi
              rw [hde] at hi
              have : lowO (C k) (j + 1) = j + 1 := by unfold lowO; rw [if_neg (by omega)]
              rw [this, List.getElem_drop]
              exact (hWA.adj.row k hne).cell (by omega))
            rw [hte, hde] at hap2
            rw [her] at hsl2
            have hcw : Chg [] w w1 := (hc9'.trans hW).andThen hc2 (fun x hx => Or.inr (by
              rcases hown9 x hx with e | e
              · simp [ownB] at e
              · exact e))
            rcases hsl2 with ⟨e, _⟩ | ⟨pl, rfl, hr2⟩
            · exact absurd e hl0
            have hpl : w.heap.size ≤ pl := by
              rcases hown2 pl (by simp [ownB]) with e | e
              · rcases hown9 pl e with e' | e'
                · simp [ownB] at e'
                · exact e'
              · have := (hc9'.trans hW).size; omega
            obtain ⟨w2, hput, hst⟩ := put_mid h ho hk hcw hl0 hr2 hpl
            have hl' : j + ((S.A k).length - (j + 1)) = ((S.A k).erase m).length := by omega
            rw [hl'] at hap2
            exact ⟨_, w1, hap2, pl, cap2, rfl, cell_of (h.chg ho.aok hcw (by simp)).row rfl, w2, hput, hst⟩
          have d1 : (((S.A k).length : Int) == 1) = false := by simp; omega
          have hwr : IntKind.i64.wrap ((j : Int) + 1) = (j : Int) + 1 := by simp [IntKind.wrap, IntKind.min, IntKind.max, IntKind.bits, IntKind.signed]; omega
          clear h ho hun hfs hmem hfj her hne hrow hl0 hjm hjf hc9' hW9 hsl9 hc9 hown9 s2 hte hde hlen2 h1
          generalize (S.A k).erase m = l' at *
          go_enter Try.func55, Try.ntmps55
          go_wp2_with fail
          refine (node_calls k w).mono ?_
          rintro x w2 ⟨rfl, hw2⟩
          obtain rfl : w = w2 := hw2.symm
          clear hw2
          rw [show (decide (0 ≤ (k : Int)) && decide ((k : Int) < 8)) = true from HN.out]
          go_wp2_with fail
          refine (node_calls m w).mono ?_
          rintro x w2 ⟨rfl, hw2⟩
          obtain rfl : w = w2 := hw2.symm
          clear hw2
          rw [show (decide (0 ≤ (m : Int)) && decide ((m : Int) < 8)) = true from HNb.out]
          go_wp2_with fail
          refine (find_calls HFD.out (by omega) m).mono ?_
          rintro x w2 ⟨rfl, hw2⟩
          obtain rfl : w = w2 := hw2.symm
          clear hw2
          rw [HJ.out]
          go_wp2_with (at_builtin; refine wpList_append_run rfl _ _ _ rfl _ _ _ _ rfl rfl hap ?_)
          all_goals (try go_wp2)
          go_region_law ((refine step_append_ex (by rfl) _ _ _ (by rfl) _ _ (by rfl) (by rfl) (HMID.out _ (by first | exact (Chg.refl _ _).drew | exact Chg.refl _ _)) ?_; rintro _ w1 ⟨pl, cap', rfl, hc1, w2, hr2, hst2⟩))
          all_goals
            go_wp2
            go_ret
            exact ⟨rfl, hst2⟩
      · rw [hun, if_neg hmem]
        have hfj : findS (S.A k) m = -1 := by
          rcases hfs with ⟨e, _⟩ | ⟨j, hj, _, e, _⟩
          · exact e
          · exact absurd (by rw [← e]; exact List.getElem_mem hj) hmem
        have HJ : Hid (findS (S.A k) m = -1) := hfj
        clear h ho hun hfs hmem hfj hcase
        go_enter Try.func55, Try.ntmps55
        go_wp2_with fail
        refine (node_calls k w).mono ?_
        rintro x w2 ⟨rfl, hw2⟩
        obtain rfl : w = w2 := hw2.symm
        clear hw2
        rw [show (decide (0 ≤ (k : Int)) && decide ((k : Int) < 8)) = true from HN.out]
        go_wp2_with fail
        refine (node_calls m w).mono ?_
        rintro x w2 ⟨rfl, hw2⟩
        obtain rfl : w = w2 := hw2.symm
        clear hw2
        rw [show (decide (0 ≤ (m : Int)) && decide ((m : Int) < 8)) = true from HNb.out]
        go_wp2_with fail
        refine (find_calls HFD.out (by omega) m).mono ?_
        rintro x w2 ⟨rfl, hw2⟩
        obtain rfl : w = w2 := hw2.symm
        clear hw2
        rw [HJ.out]
        go_wp2
        go_ret
        exact ⟨rfl, WStp.same H.out HO.out.aok (Chg.refl _ _)⟩
end Go.Proofs.Qxb6500374a.W

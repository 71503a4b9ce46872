import Derived.Test.Qxb6500371aKu
set_option linter.unusedVariables false
set_option linter.unusedSimpArgs false
namespace Go.Proofs.Qxb6500371a.W
open Go.RowKit Go.Maps

/-- A chain and its ghost, alike, in blocks from B on. -/
structure Pair (B : Nat) (w : World) (px pm mp pg : Nat) (S : RS) (g : GS) : Prop where
  at_ : ChainAt w px pm mp S
  gh : GhAt w pg g
  apart : pg ∉ px :: bl pm mp S.ls
  rel : Rel S g
  new : ∀ x ∈ pg :: px :: bl pm mp S.ls, B ≤ x

theorem Pair.chg {B : Nat} {w w' : World} {px pm mp pg : Nat} {S : RS} {g : GS} (h : Pair B w px pm mp pg S g) {bs : List Nat} (hc : Chg bs w w') (hn : ∀ x ∈ pg :: px :: bl pm mp S.ls, x ∉ bs) : Pair B w' px pm mp pg S g :=
  ⟨h.at_.chg hc (fun x hx => hn x (by simp [List.mem_cons.1 hx])), h.gh.chg hc (hn pg (by simp)), h.apart, h.rel, h.new⟩

theorem Pair.lt {B : Nat} {w : World} {px pm mp pg : Nat} {S : RS} {g : GS} (h : Pair B w px pm mp pg S g) : ∀ x ∈ pg :: px :: bl pm mp S.ls, x < w.heap.size := by
  intro x hx
  rcases List.mem_cons.1 hx with rfl | hx
  · exact h.gh.lt
  · exact h.at_.lt x hx

/-- A step of Kept on a pair. -/
theorem pair_kept {B : Nat} {w : World} {px pm mp pg : Nat} {S : RS} {g : GS} (h : Pair B w px pm mp pg S g) (hB : B ≤ w.heap.size) (o : OpD) (ho : o.ok) :
    Calls Try.prog 40 #[pt px, pt pg, opV o] w fun x w' => x = .returned (.bool true) ∧ ∃ S' g', Pair B w' px pm mp pg S' g' ∧ Chg (pg :: px :: bl pm mp S.ls) w w' ∧ ∀ x ∈ pg :: px :: bl pm mp S'.ls, x ∈ pg :: px :: bl pm mp S.ls ∨ w.heap.size ≤ x := by
  have hs := fun q => rel_step h.rel o ho q
  refine (kept_calls h.at_ h.gh h.apart h.rel.ok h.rel.zero h.rel.keyed h.rel.gok.n h.rel.heldOk o ho (hs 0).2.gok (fun q => (hs q).2.ok) (fun q => (hs q).1) (fun q => rel_show (hs q).2)).mono ?_
  rintro x w' ⟨rfl, q, hk⟩
  refine ⟨rfl, (doR q S o).2, (owesG g o).2, ?_, hk.chg, ?_⟩
  · refine ⟨hk.at_, hk.gh, ?_, (hs q).2, ?_⟩
    · intro hx
      rcases List.mem_cons.1 hx with e | hx
      · exact h.apart (by simp [e])
      · rcases hk.blk pg hx with e | e
        · exact h.apart (by simp [e])
        · have := h.gh.lt; omega
    · intro x hx
      rcases List.mem_cons.1 hx with rfl | hx
      · exact h.new x (by simp)
      · rcases List.mem_cons.1 hx with rfl | hx
        · exact h.new x (by simp)
        · rcases hk.blk x hx with e | e
          · exact h.new x (by simp [e])
          · omega
  · intro x hx
    rcases List.mem_cons.1 hx with rfl | hx
    · exact Or.inl (by simp)
    · rcases List.mem_cons.1 hx with rfl | hx
      · exact Or.inl (by simp)
      · rcases hk.blk x hx with e | e
        · exact Or.inl (by simp [e])
        · exact Or.inr e

theorem Chg.above {B : Nat} {bs : List Nat} {w0 w w' : World} (h0 : Chg [] w0 w) (h : Chg bs w w') (hb : ∀ x ∈ bs, w0.heap.size ≤ x) : Chg [] w0 w' :=
  ⟨h.os.trans h0.os, h.tape.trans h0.tape, h.output.trans h0.output, Nat.le_trans h0.size h.size, fun k hk _ => by
    rw [h.block k (Nat.lt_of_lt_of_le hk h0.size) (fun hx => by have := hb k hx; omega)]
    exact h0.block k hk (by simp)⟩

theorem op0_ok : (⟨0, 0, 0, 0, ⟨#[]⟩, ⟨#[]⟩⟩ : OpD).ok := ⟨⟨by decide, by decide⟩, ⟨by decide, by decide⟩⟩

set_option maxHeartbeats 4000000 in
set_option maxRecDepth 4000 in
theorem upto_calls {w : World} {ap : Option Addr} {len cap : Nat} {f : Nat → OpD} (hs : ScriptAt w ap len f) (hl : len ≤ maxLen) :
    Calls Try.prog 32 #[.slice ap len cap] w fun x w' => x = .returned (.int .i64 (-1)) ∧ Chg [] w w' := by
  have HS : Hid (ScriptAt w ap len f) := hs
  have hlm : len ≤ 9223372036854775807 := by have : maxLen ≤ 9223372036854775807 := by decide
                                             omega
  clear hs hl
  go_enter Try.func32, Try.ntmps32
  go_wp2_with fail
  refine (xnew_calls w).mono ?_
  rintro x w1 ⟨px, pm, mp, rfl, hat, hc1, hnew⟩
  have HAT : Hid (ChainAt w1 px pm mp sZero) := hat
  have HC1 : Hid (Chg [] w w1) := hc1
  have HNW : Hid (∀ b ∈ px :: bl pm mp [], w.heap.size ≤ b) := hnew
  clear hat hc1 hnew
  go_wp2_with fail
  have hp : Pair w.heap.size (w1.alloc (.cells (ghCells gZero) 40)) px pm mp w1.heap.size sZero gZero := by
    have hlt := HAT.out.lt
    refine ⟨HAT.out.chg (bs := []) ((Chg.refl _ _).alloc _) (by simp), heap_alloc_new _ _, fun hx => by have := hlt _ hx; omega, rel_zero, ?_⟩
    intro x hx
    rcases List.mem_cons.1 hx with rfl | hx
    · exact HC1.out.size
    · exact HNW.out x hx
  have HP : Hid (Pair w.heap.size (w1.alloc (.cells (ghCells gZero) 40)) px pm mp w1.heap.size sZero gZero) := hp
  clear hp
  refine (pair_kept HP.out (by have := HC1.out.size; simp; omega) ⟨0, 0, 0, 0, ⟨#[]⟩, ⟨#[]⟩⟩ op0_ok).mono ?_
  rintro x w2 ⟨rfl, S2, g2, hp2, hc2, _⟩
  have HP2 : Hid (Pair w.heap.size w2 px pm mp w1.heap.size S2 g2) := hp2
  have HC2 : Hid (Chg [] w w2) := Chg.above (B := 0) (HC1.out.alloc _) hc2 HP.out.new
  clear hp2 hc2
  go_wp2_with fail
  go_loopw [5] (fun v5 wr => ∃ (i : Nat) (S : RS) (g : GS), i ≤ len ∧ v5 = .int .i64 i ∧ Pair w.heap.size wr px pm mp w1.heap.size S g ∧ Chg [] w wr) (fun v5 _ => ((len : Int) - intOf v5).toNat)
  case atStart => exact ⟨0, S2, g2, by omega, rfl, HP2.out, HC2.out⟩
  case round =>
    obtain ⟨i, S, g, hi, rfl, hp, hc⟩ := hrel
    have HPi : Hid (Pair w.heap.size wr px pm mp w1.heap.size S g) := hp
    have HCi : Hid (Chg [] w wr) := hc
    clear hp hc
    by_cases hil : i < len
    · by_cases him : (i : Int) < 4398046511104
      · rcases HS.out with h0 | ⟨b, off, rfl, hb, hcell⟩
        · omega
        · obtain ⟨hok, k0, k1, k2, k3, k4, k5⟩ := hcell i hil
          have hsame := HCi.out.block b hb (by simp)
          rw [← cell_same hsame] at k0 k1 k2 k3 k4 k5
          have HOK : Hid (f i).ok := hok
          have d1 : decide (i < len) = true := by simpa using hil
          have d2 : decide ((i : Int) < 4398046511104) = true := decide_eq_true him
          clear hcell hsame hok
          go_wp2_with fail
          refine (pair_kept HPi.out HCi.out.size (f i) HOK.out).mono ?_
          rintro x w3 ⟨rfl, S3, g3, hp3, hc3, _⟩
          have HP3 : Hid (Pair w.heap.size w3 px pm mp w1.heap.size S3 g3) := hp3
          have HC3 : Hid (Chg [] w w3) := Chg.above (B := 0) HCi.out hc3 HPi.out.new
          clear hp3 hc3 k0 k1 k2 k3 k4 k5
          go_wp2
          exact ⟨⟨i + 1, S3, g3, by omega, by simp, HP3.out, HC3.out⟩, by simp [intOf]; omega⟩
      · have d1 : decide (i < len) = true := by simpa using hil
        have d2 : decide ((i : Int) < 4398046511104) = false := decide_eq_false him
        go_wp2
        go_ret
        exact ⟨rfl, HCi.out⟩
    · have d1 : decide (i < len) = false := by simpa using hil
      go_wp2
      go_ret
      exact ⟨rfl, HCi.out⟩

set_option maxRecDepth 4000 in
theorem keeps_calls {w : World} {ap : Option Addr} {len cap : Nat} {f : Nat → OpD} (hs : ScriptAt w ap len f) (hl : len ≤ maxLen) :
    Calls Try.prog 3 #[.slice ap len cap] w fun x w' => x = .returned (.bool true) ∧ Chg [] w w' := by
  have HS : Hid (ScriptAt w ap len f ∧ len ≤ maxLen) := ⟨hs, hl⟩
  clear hs hl
  go_enter Try.func3, Try.ntmps3
  go_wp2_with fail
  refine (upto_calls HS.out.1 HS.out.2).mono ?_
  rintro x w2 ⟨rfl, hc2⟩
  have HC2 : Hid (Chg [] w w2) := hc2
  clear hc2
  go_wp2
  go_ret
  exact ⟨rfl, HC2.out⟩
end Go.Proofs.Qxb6500371a.W

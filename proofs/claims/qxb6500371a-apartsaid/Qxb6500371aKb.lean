import Derived.Test.Qxb6500371aKw
import Derived.Deep.Cut
set_option linter.unusedVariables false
set_option linter.unusedSimpArgs false
namespace Go.Proofs.Qxb6500371a.W
open Go.RowKit Go.Maps

/-- Two pairs that share no block. -/
structure Two (B : Nat) (w : World) (px pm mp pg : Nat) (S : RS) (g : GS) (qx qm qp qg : Nat) (T : RS) (k : GS) : Prop where
  a : Pair B w px pm mp pg S g
  b : Pair B w qx qm qp qg T k
  dis : ∀ x ∈ pg :: px :: bl pm mp S.ls, x ∉ qg :: qx :: bl qm qp T.ls

theorem Two.swap {B : Nat} {w : World} {px pm mp pg : Nat} {S : RS} {g : GS} {qx qm qp qg : Nat} {T : RS} {k : GS} (h : Two B w px pm mp pg S g qx qm qp qg T k) : Two B w qx qm qp qg T k px pm mp pg S g :=
  ⟨h.b, h.a, fun x hx hy => h.dis x hy hx⟩

set_option maxHeartbeats 4000000 in
set_option maxRecDepth 4000 in
theorem both_calls {B : Nat} {w : World} {px pm mp pg : Nat} {S : RS} {g : GS} {qx qm qp qg : Nat} {T : RS} {k : GS} (h : Two B w px pm mp pg S g qx qm qp qg T k) (hB : B ≤ w.heap.size) (o : OpD) (ho : o.ok) :
    Calls Try.prog 41 #[pt px, pt pg, pt qx, pt qg, opV o] w fun x w' => x = .returned (.bool true) ∧ ∃ S' g', Two B w' px pm mp pg S' g' qx qm qp qg T k ∧ Chg (pg :: px :: bl pm mp S.ls) w w' := by
  have H : Hid (Two B w px pm mp pg S g qx qm qp qg T k) := h
  have HB : Hid (B ≤ w.heap.size) := hB
  have HO : Hid o.ok := ho
  clear h hB ho
  unfold opV
  go_enter Try.func41, Try.ntmps41
  go_wp2_with fail
  have h0 : Pair B (w.alloc (.cells #[.int .i64 o.kind, .int .i64 o.a, .int .i64 o.b, .int .i64 o.c, .string o.s, .string o.t] 27)) px pm mp pg S g := H.out.a.chg (bs := []) ((Chg.refl _ _).alloc _) (by simp)
  refine (pair_kept h0 (by have := HB.out; simp; omega) o HO.out).mono ?_
  clear h0
  rintro x w1 ⟨rfl, S', g', hp1, hc1, hb1⟩
  have hq1 : Pair B w1 qx qm qp qg T k := (H.out.b.chg (bs := []) ((Chg.refl _ _).alloc _) (by simp)).chg hc1 (fun x hx hy => H.out.dis x hy hx)
  have hlt := H.out.b.lt
  have ht1 : Two B w1 px pm mp pg S' g' qx qm qp qg T k := ⟨hp1, hq1, fun x hx hy => by
    rcases hb1 x hx with e | e
    · exact H.out.dis x e hy
    · have h1 := hlt x hy
      simp at e
      omega⟩
  have H1 : Hid (Two B w1 px pm mp pg S' g' qx qm qp qg T k) := ht1
  have HC1 : Hid (Chg (pg :: px :: bl pm mp S.ls) w w1) := ((Chg.refl _ w).alloc _).trans hc1
  clear hp1 hc1 hb1 hq1 hlt ht1
  go_wp2_with fail
  refine (xshow_calls H1.out.b.at_ H1.out.b.rel.ok).mono ?_
  rintro x w2 ⟨rfl, hc2⟩
  have HC2 : Hid (Chg [] w1 w2) := hc2
  clear hc2
  go_wp2_with fail
  refine (shown_calls (H1.out.b.gh.chg HC2.out (by simp)) H1.out.b.rel.gok).mono ?_
  rintro x w3 ⟨rfl, hc3⟩
  have HC3 : Hid (Chg [] w1 w3) := HC2.out.trans hc3
  clear hc3
  rw [rel_show H1.out.b.rel]
  have hbs := ba_self (shownG k)
  go_wp2
  go_ret
  exact ⟨rfl, S', g', ⟨H1.out.a.chg HC3.out (by simp), H1.out.b.chg HC3.out (by simp), H1.out.dis⟩, HC1.out.trans HC3.out.any⟩

set_option maxHeartbeats 4000000 in
set_option maxRecDepth 4000 in
theorem aupto_calls {w : World} {ap : Option Addr} {len cap : Nat} {f : Nat → OpD} (hs : ScriptAt w ap len f) (hl : len ≤ maxLen) :
    Calls Try.prog 33 #[.slice ap len cap] w fun x w' => x = .returned (.int .i64 (-1)) ∧ Chg [] w w' := by
  have HS : Hid (ScriptAt w ap len f) := hs
  have hlm : len ≤ 9223372036854775807 := by have : maxLen ≤ 9223372036854775807 := by decide
                                             omega
  clear hs hl
  go_enter Try.func33, Try.ntmps33
  go_wp2_with fail
  refine (xnew_calls w).mono ?_
  rintro x w1 ⟨px, pm, mp, rfl, hat, hc1, hnew⟩
  have HAT : Hid (ChainAt w1 px pm mp sZero) := hat
  have HC1 : Hid (Chg [] w w1) := hc1
  have HNW : Hid (∀ b ∈ px :: bl pm mp [], w.heap.size ≤ b) := hnew
  clear hat hc1 hnew
  go_wp2_with fail
  refine (xnew_calls w1).mono ?_
  rintro x w2 ⟨qx, qm, qp, rfl, hat, hc2, hnew⟩
  have HBT : Hid (ChainAt w2 qx qm qp sZero) := hat
  have HC2 : Hid (Chg [] w1 w2) := hc2
  have HNX : Hid (∀ b ∈ qx :: bl qm qp [], w1.heap.size ≤ b) := hnew
  clear hat hc2 hnew
  go_wp2_with fail
  have ht : Two w.heap.size ((w2.alloc (.cells (ghCells gZero) 40)).alloc (.cells (ghCells gZero) 40)) px pm mp w2.heap.size sZero gZero qx qm qp (w2.heap.size + 1) sZero gZero := by
    have hl1 := HAT.out.lt
    have hl2 := HBT.out.lt
    have s1 := HC1.out.size
    have s2 := HC2.out.size
    have ca : Chg [] w2 ((w2.alloc (.cells (ghCells gZero) 40)).alloc (.cells (ghCells gZero) 40)) := ((Chg.refl _ _).alloc _).alloc _
    refine ⟨⟨(HAT.out.chg HC2.out (by simp)).chg ca (by simp), Chg.keep (bs := []) ((Chg.refl _ _).alloc _) (heap_alloc_new _ _) (by simp), fun hx => by have := hl1 _ hx; omega, rel_zero, ?_⟩,
      ⟨HBT.out.chg ca (by simp), ?_, fun hx => by have := hl2 _ hx; omega, rel_zero, ?_⟩, ?_⟩
    · intro x hx
      rcases List.mem_cons.1 hx with rfl | hx
      · omega
      · exact HNW.out x hx
    · have := heap_alloc_new (w2.alloc (.cells (ghCells gZero) 40)) (.cells (ghCells gZero) 40)
      have e : (w2.alloc (.cells (ghCells gZero) 40)).heap.size = w2.heap.size + 1 := by simp
      rw [e] at this
      exact this
    · intro x hx
      rcases List.mem_cons.1 hx with rfl | hx
      · omega
      · have := HNX.out x hx; omega
    · intro x hx hy
      rcases List.mem_cons.1 hx with rfl | hx
      · rcases List.mem_cons.1 hy with e | hy
        · omega
        · have := hl2 _ hy; omega
      · have h1 := hl1 x hx
        rcases List.mem_cons.1 hy with e | hy
        · omega
        · have := HNX.out x hy; omega
  have HT : Hid (Two w.heap.size ((w2.alloc (.cells (ghCells gZero) 40)).alloc (.cells (ghCells gZero) 40)) px pm mp w2.heap.size sZero gZero qx qm qp (w2.heap.size + 1) sZero gZero) := ht
  have HC3 : Hid (Chg [] w ((w2.alloc (.cells (ghCells gZero) 40)).alloc (.cells (ghCells gZero) 40))) := ((HC1.out.trans HC2.out).alloc _).alloc _
  clear ht
  go_loopw [7] (fun v7 wr => ∃ (i : Nat) (S : RS) (g : GS) (T : RS) (k : GS), i ≤ len ∧ v7 = .int .i64 i ∧ Two w.heap.size wr px pm mp w2.heap.size S g qx qm qp (w2.heap.size + 1) T k ∧ Chg [] w wr) (fun v7 _ => ((len : Int) - intOf v7).toNat)
  case atStart => exact ⟨0, sZero, gZero, sZero, gZero, by omega, rfl, HT.out, HC3.out⟩
  case round =>
    obtain ⟨i, S, g, T, k, hi, rfl, hp, hc⟩ := hrel
    have HPi : Hid (Two w.heap.size wr px pm mp w2.heap.size S g qx qm qp (w2.heap.size + 1) T k) := hp
    have HCi : Hid (Chg [] w wr) := hc
    clear hp hc
    by_cases hil : i < len
    · by_cases him : (i : Int) < 4398046511104
      · rcases HS.out with h0 | ⟨b, off, rfl, hb, hcell⟩
        · omega
        · obtain ⟨hok, k0, k1, k2, k3, k4, k5⟩ := hcell i hil
          have hsame := HCi.out.block b hb (by simp)
          rw [← cell_same hsame] at k0 k1 k2 k3 k4 k5
          have HOK : Hid (f i).ok := hok
          have d1 : decide (i < len) = true := by simpa using hil
          have d2 : decide ((i : Int) < 4398046511104) = true := decide_eq_true him
          clear hcell hsame hok
          go_upto_if 31 with fail
          generalize (bits BinOp.and IntKind.i64 (f i).c 1 == 1) = bt
          generalize bits BinOp.and IntKind.i64 (f i).c 1 = zt
          cases bt with
          | true =>
            go_wp2_with fail
            refine (both_calls HPi.out.swap HCi.out.size (f i) HOK.out).mono ?_
            rintro x w3 ⟨rfl, S3, g3, hp3, hc3⟩
            have HP3 : Hid (Two w.heap.size w3 px pm mp w2.heap.size S g qx qm qp (w2.heap.size + 1) S3 g3) := hp3.swap
            have HC3 : Hid (Chg [] w w3) := Chg.above (B := 0) HCi.out hc3 HPi.out.b.new
            clear hp3 hc3 k0 k1 k2 k3 k4 k5
            go_wp2
            exact ⟨⟨i + 1, S, g, S3, g3, by omega, by simp, HP3.out, HC3.out⟩, by simp [intOf]; omega⟩
          | false =>
            go_wp2_with fail
            refine (both_calls HPi.out HCi.out.size (f i) HOK.out).mono ?_
            rintro x w3 ⟨rfl, S3, g3, hp3, hc3⟩
            have HP3 : Hid (Two w.heap.size w3 px pm mp w2.heap.size S3 g3 qx qm qp (w2.heap.size + 1) T k) := hp3
            have HC3 : Hid (Chg [] w w3) := Chg.above (B := 0) HCi.out hc3 HPi.out.a.new
            clear hp3 hc3 k0 k1 k2 k3 k4 k5
            go_wp2
            exact ⟨⟨i + 1, S3, g3, T, k, by omega, by simp, HP3.out, HC3.out⟩, by simp [intOf]; omega⟩
      · have d1 : decide (i < len) = true := by simpa using hil
        have d2 : decide ((i : Int) < 4398046511104) = false := decide_eq_false him
        go_wp2
        go_ret
        exact ⟨rfl, HCi.out⟩
    · have d1 : decide (i < len) = false := by simpa using hil
      go_wp2
      go_ret
      exact ⟨rfl, HCi.out⟩

set_option maxRecDepth 4000 in
theorem apart_calls {w : World} {ap : Option Addr} {len cap : Nat} {f : Nat → OpD} (hs : ScriptAt w ap len f) (hl : len ≤ maxLen) :
    Calls Try.prog 4 #[.slice ap len cap] w fun x w' => x = .returned (.bool true) ∧ Chg [] w w' := by
  have HS : Hid (ScriptAt w ap len f ∧ len ≤ maxLen) := ⟨hs, hl⟩
  clear hs hl
  go_enter Try.func4, Try.ntmps4
  go_wp2_with fail
  refine (aupto_calls HS.out.1 HS.out.2).mono ?_
  rintro x w2 ⟨rfl, hc2⟩
  have HC2 : Hid (Chg [] w w2) := hc2
  clear hc2
  go_wp2
  go_ret
  exact ⟨rfl, HC2.out⟩
end Go.Proofs.Qxb6500371a.W

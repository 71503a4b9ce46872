import Derived.Test.Qxb6500371aMdB
set_option linter.unusedVariables false
set_option linter.unusedSimpArgs false
namespace Go.Proofs.Qxb6500371a.W
open Go.RowKit Go.Maps

/-- A chain and the model's chain, alike, in blocks from B on. -/
structure Duo (B N : Nat) (w : World) (px pm mp pd : Nat) (S : RS) (g : GS) : Prop where
  at_ : ChainAt w px pm mp S
  md : ∃ lp cap, MI w pd g lp cap ∧ (∀ x ∈ pd :: ownB lp, x ∉ px :: bl pm mp S.ls) ∧ ∀ x ∈ pd :: ownB lp, B ≤ x
  all : MAll N S g
  new : ∀ x ∈ px :: bl pm mp S.ls, B ≤ x

/-- Between the chain's step and the model's. -/
structure Mid (B N : Nat) (w : World) (px pm mp pd : Nat) (S : RS) (g : GS) (o : OpD) (S' : RS) : Prop where
  at_ : ChainAt w px pm mp S'
  md : ∃ lp cap, MI w pd g lp cap ∧ (∀ x ∈ pd :: ownB lp, x ∉ px :: bl pm mp S'.ls) ∧ ∀ x ∈ pd :: ownB lp, B ≤ x
  all : MAll N S g
  rel : Rel S' (owesG g o).2
  new : ∀ x ∈ px :: bl pm mp S'.ls, B ≤ x

theorem Duo.quiet {B N : Nat} {w w' : World} {px pm mp pd : Nat} {S : RS} {g : GS} (h : Duo B N w px pm mp pd S g) (hc : Chg [] w w') : Duo B N w' px pm mp pd S g := by
  obtain ⟨lp, cap, h1, h2⟩ := h.md
  exact ⟨h.at_.chg hc (by simp), ⟨lp, cap, MdAt.chg h1 hc (by simp), h2⟩, h.all, h.new⟩

theorem duo_do {B N : Nat} {w : World} {px pm mp pd : Nat} {S : RS} {g : GS} (h : Duo B N w px pm mp pd S g) (hB : B ≤ w.heap.size) (o : OpD) (ho : o.ok) :
    Calls Try.prog 43 #[pt px, opV o] w fun x w' => x = .returned (ansV (owed g o)) ∧ ∃ S', Mid B N w' px pm mp pd S g o S' ∧ Chg (px :: bl pm mp S.ls) w w' := by
  have hr := h.all.rel
  refine (do_calls h.at_ hr.ok hr.zero hr.keyed o ho).mono ?_
  rintro x w' ⟨rfl, hs⟩
  have hst := rel_step hr o ho (w.heap.size + 3)
  obtain ⟨lp, cap, h1, h2, h3⟩ := h.md
  have hlt := mi_lt h1
  refine ⟨by rw [hst.1], (doR (w.heap.size + 3) S o).2, ⟨hs.at_, ⟨lp, cap, MdAt.chg h1 hs.chg h2, ?_, h3⟩, h.all, hst.2, ?_⟩, hs.chg⟩
  · intro x hx hm
    rcases List.mem_cons.1 hm with e | hm
    · exact h2 x hx (by simp [e])
    · rcases hs.blk x hm with e | e
      · exact h2 x hx (by simp [e])
      · have := hlt x hx; omega
  · intro x hx
    rcases List.mem_cons.1 hx with rfl | hx
    · exact h.new x (by simp)
    · rcases hs.blk x hx with e | e
      · exact h.new x (by simp [e])
      · omega

theorem duo_dom {B N : Nat} {w : World} {px pm mp pd : Nat} {S S' : RS} {g : GS} {o : OpD} (h : Mid B N w px pm mp pd S g o S') (hB : B ≤ w.heap.size) (hN : (N : Int) < 4398046511104) (ob : Obj) :
    Calls Try.prog 50 #[pt pd, opV o] (w.alloc ob) fun x w' => x = .returned (ansV (owed g o)) ∧ Duo B (N + 1) w' px pm mp pd S' (owesG g o).2 ∧ ∃ bs, Chg bs (w.alloc ob) w' ∧ ∀ x ∈ bs, B ≤ x ∧ x < w.heap.size := by
  obtain ⟨lp, cap, h1, h2, h3⟩ := h.md
  have hlt := mi_lt h1
  have ha : Chg [] w (w.alloc ob) := (Chg.refl _ _).alloc _
  refine (dom_calls (MdAt.chg h1 ha (by simp)) h.all o).mono ?_
  rintro x w' ⟨rfl, hx⟩
  obtain ⟨⟨lp', cap', e1, e2⟩, hc⟩ := hx
  have hxl := (h.at_.chg ha (by simp)).lt
  refine ⟨rfl, ⟨(h.at_.chg ha (by simp)).chg hc (fun x hx hm => h2 x hm hx), ⟨lp', cap', e1, ?_, ?_⟩, ⟨h.rel, cnt_step h.all.rel h.all.cnt hN o, by omega⟩, h.new⟩, pd :: ownB lp, hc, fun x hx => ⟨h3 x hx, hlt x hx⟩⟩
  · intro x hx hm
    rcases List.mem_cons.1 hx with rfl | hx
    · exact h2 x (by simp) hm
    · rcases e2 x hx with e | e
      · exact h2 x (by simp [e]) hm
      · have := hxl x hm; omega
  · intro x hx
    rcases List.mem_cons.1 hx with rfl | hx
    · exact h3 x (by simp)
    · rcases e2 x hx with e | e
      · exact h3 x (by simp [e])
      · have := ha.size; omega

theorem duo_seen {B N : Nat} {w : World} {px pm mp pd : Nat} {S : RS} {g : GS} (h : Duo B N w px pm mp pd S g) :
    Calls Try.prog 49 #[pt px, pt pd] w fun x w' => x = .returned (.bool true) ∧ Chg [] w w' := by
  obtain ⟨lp, cap, h1, h2⟩ := h.md
  exact seen_calls h.at_ h1 h.all

theorem neq_ans (e n m : Int) (s : ByteArray) (w : World) : (binOp .neq 30 (.agg (ansCells e n m s)) (.agg (ansCells e n m s))).run Try.prog w = .ok (.bool false) w := by
  have h : (Op.equalIn Op.maxDepth 30 (.agg (ansCells e n m s)) (.agg (ansCells e n m s))).run Try.prog w = .ok true w := eqA 9998 e n m s w
  simp only [binOp, Op.equal]
  rw [Sem.run_bind, h]
  rfl

set_option maxHeartbeats 4000000 in
set_option maxRecDepth 4000 in
theorem walk_loud {w : World} {ap : Option Addr} {len cap : Nat} {f : Nat → OpD} (hs : ScriptAt w ap len f) (hl : len ≤ maxLen) :
    Calls Try.prog 42 #[.slice ap len cap, .bool false] w fun x w' => (∃ n, x = .returned (.tuple #[.int .i64 (-1), .int .i64 n])) ∧ Chg [] w w' := by
  have HS : Hid (ScriptAt w ap len f) := hs
  have hlm : len ≤ 9223372036854775807 := by have : maxLen ≤ 9223372036854775807 := by decide
                                             omega
  clear hs hl
  go_enter Try.func42, Try.ntmps42
  go_wp2_with fail
  refine (xnew_calls w).mono ?_
  rintro x w1 ⟨px, pm, mp, rfl, hat, hc1, hnew⟩
  have HAT : Hid (ChainAt w1 px pm mp sZero) := hat
  have HC1 : Hid (Chg [] w w1) := hc1
  have HNW : Hid (∀ b ∈ px :: bl pm mp [], w.heap.size ≤ b) := hnew
  clear hat hc1 hnew
  go_wp2_with fail
  refine (mnew_calls w1).mono ?_
  rintro x w2 ⟨rfl, hm2, hc2⟩
  have hp : Duo w.heap.size 0 w2 px pm mp w1.heap.size sZero gZero := by
    have hlt := HAT.out.lt
    have hsz := HC1.out.size
    refine ⟨HAT.out.chg hc2 (by simp), ⟨none, 0, hm2, ?_, ?_⟩, ⟨rel_zero, cnt_zero, by decide⟩, HNW.out⟩
    · intro x hx hm
      simp [ownB] at hx
      subst hx
      have := hlt _ hm; omega
    · intro x hx
      simp [ownB] at hx
      omega
  have HP : Hid (Duo w.heap.size 0 w2 px pm mp w1.heap.size sZero gZero) := hp
  have HC2 : Hid (Chg [] w w2) := HC1.out.trans hc2
  clear hp hm2 hc2
  go_wp2_with fail
  refine (duo_seen HP.out).mono ?_
  rintro x wS ⟨rfl, hcS⟩
  have HPS : Hid (Duo w.heap.size 0 wS px pm mp w1.heap.size sZero gZero) := HP.out.quiet hcS
  have HCS : Hid (Chg [] w wS) := HC2.out.trans hcS
  clear hcS
  go_wp2_with fail
  go_loopw [8] (fun v8 wr => ∃ (i : Nat) (S : RS) (g : GS), i ≤ len ∧ v8 = .int .i64 i ∧ Duo w.heap.size i wr px pm mp w1.heap.size S g ∧ Chg [] w wr) (fun v8 _ => ((len : Int) - intOf v8).toNat)
  case atStart => exact ⟨0, sZero, gZero, by omega, rfl, HPS.out, HCS.out⟩
  case round =>
    obtain ⟨i, S, g, hi, rfl, hp, hc⟩ := hrel
    have HPi : Hid (Duo w.heap.size i wr px pm mp w1.heap.size S g) := hp
    have HCi : Hid (Chg [] w wr) := hc
    clear hp hc
    by_cases hil : i < len
    · by_cases him : (i : Int) < 4398046511104
      · rcases HS.out with h0 | ⟨b, off, rfl, hb, hcell⟩
        · omega
        · obtain ⟨hok, k0, k1, k2, k3, k4, k5⟩ := hcell i hil
          have KS : Hid (w.cell? ⟨b, off + i * 6, none⟩ = some (.int .i64 (f i).kind) ∧ w.cell? ⟨b, off + i * 6 + 1, none⟩ = some (.int .i64 (f i).a) ∧ w.cell? ⟨b, off + i * 6 + 2, none⟩ = some (.int .i64 (f i).b) ∧
            w.cell? ⟨b, off + i * 6 + 3, none⟩ = some (.int .i64 (f i).c) ∧ w.cell? ⟨b, off + i * 6 + 4, none⟩ = some (.string (f i).s) ∧ w.cell? ⟨b, off + i * 6 + 5, none⟩ = some (.string (f i).t)) := ⟨k0, k1, k2, k3, k4, k5⟩
          have hsame := HCi.out.block b hb (by simp)
          rw [← cell_same hsame] at k0 k1 k2 k3 k4 k5
          have HOK : Hid (f i).ok := hok
          have HB : Hid (b < w.heap.size) := hb
          have d1 : decide (i < len) = true := by simpa using hil
          have d2 : decide ((i : Int) < 4398046511104) = true := decide_eq_true him
          have HIM : Hid ((i : Int) < 4398046511104) := him
          clear hcell hsame hok hb
          go_wp2_with fail
          refine (duo_do HPi.out HCi.out.size (f i) HOK.out).mono ?_
          rintro x w3 ⟨rfl, S3, hp3, hc3⟩
          generalize hr : owed g (f i) = r
          have HR : Hid (owed g (f i) = r) := hr
          clear hr
          rw [ansV]
          have HP3 : Hid (Mid w.heap.size i w3 px pm mp w1.heap.size S g (f i) S3) := hp3
          have HC3 : Hid (Chg [] w w3) := Chg.above (B := 0) HCi.out hc3 HPi.out.new
          have hsame := HC3.out.block b HB.out (by simp)
          obtain ⟨j0, j1, j2, j3, j4, j5⟩ := KS.out
          rw [← cell_same hsame] at j0 j1 j2 j3 j4 j5
          have hb3 : b < w3.heap.size := Nat.lt_of_lt_of_le HB.out HC3.out.size
          clear hp3 hc3 k0 k1 k2 k3 k4 k5 hsame
          go_wp2_with fail
          refine (duo_dom HP3.out HC3.out.size HIM.out (.cells (ansCells r.e r.n r.m r.s) 30)).mono ?_
          rintro x w4 ⟨rfl, hp4, bs, hc4, hbs⟩
          rw [HR.out, ansV]
          have HP4 : Hid (Duo w.heap.size (i + 1) w4 px pm mp w1.heap.size S3 (owesG g (f i)).2) := hp4
          have HC4 : Hid (Chg [] w w4) := Chg.above (B := 0) (HC3.out.alloc _) hc4 (fun x hx => (hbs x hx).1)
          have HA4 : Hid (w4.heap[w3.heap.size]? = some (.cells (ansCells r.e r.n r.m r.s) 30 (0, 0))) := hc4.keep (heap_alloc_new _ _) (fun hx => by have := (hbs _ hx).2; omega)
          have hsz3 : w3.heap.size < w4.heap.size := (Array.getElem?_eq_some_iff.1 HA4.out).1
          have x0 : w4.cell? ⟨w3.heap.size, 0, none⟩ = some (.int .i64 r.e) := cell_of HA4.out rfl
          have x1 : w4.cell? ⟨w3.heap.size, 1, none⟩ = some (.int .i64 r.n) := cell_of HA4.out rfl
          have x2 : w4.cell? ⟨w3.heap.size, 2, none⟩ = some (.int .i64 r.m) := cell_of HA4.out rfl
          have x3 : w4.cell? ⟨w3.heap.size, 3, none⟩ = some (.string r.s) := cell_of HA4.out rfl
          have hnq := neq_ans r.e r.n r.m r.s (w4.alloc (.cells (ansCells r.e r.n r.m r.s) 30))
          have hbs := ba_self r.s
          clear hp4 hc4 hbs j0 j1 j2 j3 j4 j5 hb3
          go_wp2_with fail
          refine (duo_seen (HP4.out.quiet ((Chg.refl [] w4).alloc _))).mono ?_
          rintro x w5 ⟨rfl, hc5⟩
          have HP5 : Hid (Duo w.heap.size (i + 1) w5 px pm mp w1.heap.size S3 (owesG g (f i)).2) := (HP4.out.quiet ((Chg.refl [] w4).alloc _)).quiet hc5
          have HC5 : Hid (Chg [] w w5) := (HC4.out.alloc _).trans hc5
          clear hc5 x0 x1 x2 x3 hnq
          go_wp2
          exact ⟨⟨i + 1, S3, (owesG g (f i)).2, by omega, by simp, HP5.out, HC5.out⟩, by simp [intOf]; omega⟩
      · have d1 : decide (i < len) = true := by simpa using hil
        have d2 : decide ((i : Int) < 4398046511104) = false := decide_eq_false him
        go_wp2
        go_ret2
        exact ⟨⟨_, rfl⟩, HCi.out⟩
    · have d1 : decide (i < len) = false := by simpa using hil
      go_wp2
      go_ret2
      exact ⟨⟨_, rfl⟩, HCi.out⟩

set_option maxHeartbeats 4000000 in
set_option maxRecDepth 4000 in
theorem walk_quiet {w : World} {ap : Option Addr} {len cap : Nat} {f : Nat → OpD} (hs : ScriptAt w ap len f) (hl : len ≤ maxLen) :
    Calls Try.prog 42 #[.slice ap len cap, .bool true] w fun x w' => (∃ n, x = .returned (.tuple #[.int .i64 (-1), .int .i64 n])) ∧ Chg [] w w' := by
  have HS : Hid (ScriptAt w ap len f) := hs
  have hlm : len ≤ 9223372036854775807 := by have : maxLen ≤ 9223372036854775807 := by decide
                                             omega
  clear hs hl
  go_enter Try.func42, Try.ntmps42
  go_wp2_with fail
  refine (xnew_calls w).mono ?_
  rintro x w1 ⟨px, pm, mp, rfl, hat, hc1, hnew⟩
  have HAT : Hid (ChainAt w1 px pm mp sZero) := hat
  have HC1 : Hid (Chg [] w w1) := hc1
  have HNW : Hid (∀ b ∈ px :: bl pm mp [], w.heap.size ≤ b) := hnew
  clear hat hc1 hnew
  go_wp2_with fail
  refine (mnew_calls w1).mono ?_
  rintro x w2 ⟨rfl, hm2, hc2⟩
  have hp : Duo w.heap.size 0 w2 px pm mp w1.heap.size sZero gZero := by
    have hlt := HAT.out.lt
    have hsz := HC1.out.size
    refine ⟨HAT.out.chg hc2 (by simp), ⟨none, 0, hm2, ?_, ?_⟩, ⟨rel_zero, cnt_zero, by decide⟩, HNW.out⟩
    · intro x hx hm
      simp [ownB] at hx
      subst hx
      have := hlt _ hm; omega
    · intro x hx
      simp [ownB] at hx
      omega
  have HP : Hid (Duo w.heap.size 0 w2 px pm mp w1.heap.size sZero gZero) := hp
  have HC2 : Hid (Chg [] w w2) := HC1.out.trans hc2
  clear hp hm2 hc2
  have HPS : Hid (Duo w.heap.size 0 w2 px pm mp w1.heap.size sZero gZero) := HP.out
  have HCS : Hid (Chg [] w w2) := HC2.out
  go_wp2_with fail
  go_loopw [8] (fun v8 wr => ∃ (i : Nat) (S : RS) (g : GS), i ≤ len ∧ v8 = .int .i64 i ∧ Duo w.heap.size i wr px pm mp w1.heap.size S g ∧ Chg [] w wr) (fun v8 _ => ((len : Int) - intOf v8).toNat)
  case atStart => exact ⟨0, sZero, gZero, by omega, rfl, HPS.out, HCS.out⟩
  case round =>
    obtain ⟨i, S, g, hi, rfl, hp, hc⟩ := hrel
    have HPi : Hid (Duo w.heap.size i wr px pm mp w1.heap.size S g) := hp
    have HCi : Hid (Chg [] w wr) := hc
    clear hp hc
    by_cases hil : i < len
    · by_cases him : (i : Int) < 4398046511104
      · rcases HS.out with h0 | ⟨b, off, rfl, hb, hcell⟩
        · omega
        · obtain ⟨hok, k0, k1, k2, k3, k4, k5⟩ := hcell i hil
          have KS : Hid (w.cell? ⟨b, off + i * 6, none⟩ = some (.int .i64 (f i).kind) ∧ w.cell? ⟨b, off + i * 6 + 1, none⟩ = some (.int .i64 (f i).a) ∧ w.cell? ⟨b, off + i * 6 + 2, none⟩ = some (.int .i64 (f i).b) ∧
            w.cell? ⟨b, off + i * 6 + 3, none⟩ = some (.int .i64 (f i).c) ∧ w.cell? ⟨b, off + i * 6 + 4, none⟩ = some (.string (f i).s) ∧ w.cell? ⟨b, off + i * 6 + 5, none⟩ = some (.string (f i).t)) := ⟨k0, k1, k2, k3, k4, k5⟩
          have hsame := HCi.out.block b hb (by simp)
          rw [← cell_same hsame] at k0 k1 k2 k3 k4 k5
          have HOK : Hid (f i).ok := hok
          have HB : Hid (b < w.heap.size) := hb
          have d1 : decide (i < len) = true := by simpa using hil
          have d2 : decide ((i : Int) < 4398046511104) = true := decide_eq_true him
          have HIM : Hid ((i : Int) < 4398046511104) := him
          clear hcell hsame hok hb
          go_wp2_with fail
          refine (duo_do HPi.out HCi.out.size (f i) HOK.out).mono ?_
          rintro x w3 ⟨rfl, S3, hp3, hc3⟩
          generalize hr : owed g (f i) = r
          have HR : Hid (owed g (f i) = r) := hr
          clear hr
          rw [ansV]
          have HP3 : Hid (Mid w.heap.size i w3 px pm mp w1.heap.size S g (f i) S3) := hp3
          have HC3 : Hid (Chg [] w w3) := Chg.above (B := 0) HCi.out hc3 HPi.out.new
          have hsame := HC3.out.block b HB.out (by simp)
          obtain ⟨j0, j1, j2, j3, j4, j5⟩ := KS.out
          rw [← cell_same hsame] at j0 j1 j2 j3 j4 j5
          have hb3 : b < w3.heap.size := Nat.lt_of_lt_of_le HB.out HC3.out.size
          clear hp3 hc3 k0 k1 k2 k3 k4 k5 hsame
          go_wp2_with fail
          refine (duo_dom HP3.out HC3.out.size HIM.out (.cells (ansCells r.e r.n r.m r.s) 30)).mono ?_
          rintro x w4 ⟨rfl, hp4, bs, hc4, hbs⟩
          rw [HR.out, ansV]
          have HP4 : Hid (Duo w.heap.size (i + 1) w4 px pm mp w1.heap.size S3 (owesG g (f i)).2) := hp4
          have HC4 : Hid (Chg [] w w4) := Chg.above (B := 0) (HC3.out.alloc _) hc4 (fun x hx => (hbs x hx).1)
          have HA4 : Hid (w4.heap[w3.heap.size]? = some (.cells (ansCells r.e r.n r.m r.s) 30 (0, 0))) := hc4.keep (heap_alloc_new _ _) (fun hx => by have := (hbs _ hx).2; omega)
          have hsz3 : w3.heap.size < w4.heap.size := (Array.getElem?_eq_some_iff.1 HA4.out).1
          have x0 : w4.cell? ⟨w3.heap.size, 0, none⟩ = some (.int .i64 r.e) := cell_of HA4.out rfl
          have x1 : w4.cell? ⟨w3.heap.size, 1, none⟩ = some (.int .i64 r.n) := cell_of HA4.out rfl
          have x2 : w4.cell? ⟨w3.heap.size, 2, none⟩ = some (.int .i64 r.m) := cell_of HA4.out rfl
          have x3 : w4.cell? ⟨w3.heap.size, 3, none⟩ = some (.string r.s) := cell_of HA4.out rfl
          have hnq := neq_ans r.e r.n r.m r.s (w4.alloc (.cells (ansCells r.e r.n r.m r.s) 30))
          have hbs := ba_self r.s
          clear hp4 hc4 hbs j0 j1 j2 j3 j4 j5 hb3
          go_wp2
          exact ⟨⟨i + 1, S3, (owesG g (f i)).2, by omega, by simp, HP4.out.quiet ((Chg.refl [] w4).alloc _), HC4.out.alloc _⟩, by simp [intOf]; omega⟩
      · have d1 : decide (i < len) = true := by simpa using hil
        have d2 : decide ((i : Int) < 4398046511104) = false := decide_eq_false him
        go_wp2
        go_ret2
        exact ⟨⟨_, rfl⟩, HCi.out⟩
    · have d1 : decide (i < len) = false := by simpa using hil
      go_wp2
      go_ret2
      exact ⟨⟨_, rfl⟩, HCi.out⟩

set_option maxRecDepth 4000 in
theorem refinesUp_calls {w : World} {ap : Option Addr} {len cap : Nat} {f : Nat → OpD} (hs : ScriptAt w ap len f) (hl : len ≤ maxLen) :
    Calls Try.prog 34 #[.slice ap len cap] w fun x w' => x = .returned (.int .i64 (-1)) ∧ Chg [] w w' := by
  have HS : Hid (ScriptAt w ap len f ∧ len ≤ maxLen) := ⟨hs, hl⟩
  clear hs hl
  go_enter Try.func34, Try.ntmps34
  go_wp2_with fail
  refine (walk_loud HS.out.1 HS.out.2).mono ?_
  rintro x w2 ⟨⟨n, rfl⟩, hc2⟩
  have HC2 : Hid (Chg [] w w2) := hc2
  clear hc2
  go_wp2
  go_ret
  exact ⟨rfl, HC2.out⟩

set_option maxRecDepth 4000 in
theorem refines_calls {w : World} {ap : Option Addr} {len cap : Nat} {f : Nat → OpD} (hs : ScriptAt w ap len f) (hl : len ≤ maxLen) :
    Calls Try.prog 5 #[.slice ap len cap] w fun x w' => x = .returned (.bool true) ∧ Chg [] w w' := by
  have HS : Hid (ScriptAt w ap len f ∧ len ≤ maxLen) := ⟨hs, hl⟩
  clear hs hl
  go_enter Try.func5, Try.ntmps5
  go_wp2_with fail
  refine (refinesUp_calls HS.out.1 HS.out.2).mono ?_
  rintro x w2 ⟨rfl, hc2⟩
  have HC2 : Hid (Chg [] w w2) := hc2
  clear hc2
  go_wp2
  go_ret
  exact ⟨rfl, HC2.out⟩

set_option maxRecDepth 4000 in
theorem quietUp_calls {w : World} {ap : Option Addr} {len cap : Nat} {f : Nat → OpD} (hs : ScriptAt w ap len f) (hl : len ≤ maxLen) :
    Calls Try.prog 35 #[.slice ap len cap] w fun x w' => x = .returned (.int .i64 (-1)) ∧ Chg [] w w' := by
  have HS : Hid (ScriptAt w ap len f ∧ len ≤ maxLen) := ⟨hs, hl⟩
  clear hs hl
  go_enter Try.func35, Try.ntmps35
  go_wp2_with fail
  refine (walk_quiet HS.out.1 HS.out.2).mono ?_
  rintro x w2 ⟨⟨n, rfl⟩, hc2⟩
  have HC2 : Hid (Chg [] w w2) := hc2
  clear hc2
  go_wp2
  go_ret
  exact ⟨rfl, HC2.out⟩

set_option maxRecDepth 4000 in
theorem refinesQuiet_calls {w : World} {ap : Option Addr} {len cap : Nat} {f : Nat → OpD} (hs : ScriptAt w ap len f) (hl : len ≤ maxLen) :
    Calls Try.prog 6 #[.slice ap len cap] w fun x w' => x = .returned (.bool true) ∧ Chg [] w w' := by
  have HS : Hid (ScriptAt w ap len f ∧ len ≤ maxLen) := ⟨hs, hl⟩
  clear hs hl
  go_enter Try.func6, Try.ntmps6
  go_wp2_with fail
  refine (quietUp_calls HS.out.1 HS.out.2).mono ?_
  rintro x w2 ⟨rfl, hc2⟩
  have HC2 : Hid (Chg [] w w2) := hc2
  clear hc2
  go_wp2
  go_ret
  exact ⟨rfl, HC2.out⟩
end Go.Proofs.Qxb6500371a.W

import Derived.Test.Qxb6500371aSound
set_option linter.unusedVariables false
set_option linter.unusedSimpArgs false
namespace Go.Proofs.Qxb6500371a.W
open Go.RowKit Go.Maps

@[go_sem] theorem eq_p53 (b o : Nat) (w : World) : (binOp .eql 53 (.pointer (some ⟨b, o, none⟩)) (.pointer none)).run Try.prog w = .ok (.bool false) w := by kernel_rfl

def keyIn (m : MS) (c : CS) : Prop := c.full = true → ∃ i : Nat, i < 4 ∧ c.key = i ∧ m.has i = true
def Layer.keyed (m : MS) : Layer → Prop
  | .cached _ c => keyIn m c
  | .limited _ c => keyIn m c
  | .logged _ _ => True

theorem asS_91_91 (p : Nat) (w : World) : (Instr.typeAssert (.iface 91 (pt p)) 50 91 true).run Try.prog w = .ok (.tuple #[pt p, .bool true]) w := by kernel_rfl
theorem asS_86_91 (p : Nat) (w : World) : (Instr.typeAssert (.iface 86 (pt p)) 50 91 true).run Try.prog w = .ok (.tuple #[.pointer none, .bool false]) w := by kernel_rfl
theorem asS_45_91 (p : Nat) (w : World) : (Instr.typeAssert (.iface 45 (pt p)) 50 91 true).run Try.prog w = .ok (.tuple #[.pointer none, .bool false]) w := by kernel_rfl
theorem asS_86_86 (p : Nat) (w : World) : (Instr.typeAssert (.iface 86 (pt p)) 50 86 true).run Try.prog w = .ok (.tuple #[pt p, .bool true]) w := by kernel_rfl
theorem asS_45_86 (p : Nat) (w : World) : (Instr.typeAssert (.iface 45 (pt p)) 50 86 true).run Try.prog w = .ok (.tuple #[.pointer none, .bool false]) w := by kernel_rfl

/-- Which of the seven cells, read once: held and heldPut. -/
theorem held_cells (pm : Nat) (S : RS) : (S.held = none ∧ fnV "Get" pm S = .nilFunc ∧ fnV "Put" pm S = .nilFunc ∧ atV S = .int .i64 (-1) ∧ logV S = .pointer none ∧ thenV S = .nilFunc) ∨
    ∃ h a b, S.held = some (h, a, b) ∧ (∃ v, fnV "Get" pm S = .func (.method "Get") v #[]) ∧ (∃ v, fnV "Put" pm S = .func (.method "Put") v #[]) ∧ atV S = .int .i64 (h : Nat) ∧
      ((logV S = .pointer none ∧ thenV S = .nilFunc) ∨ ∃ p v, logV S = pt p ∧ thenV S = .func (.func 63) v #[]) := by
  cases hh : S.held with
  | none => exact Or.inl ⟨rfl, by rw [fnV, hh], by rw [fnV, hh], by rw [atV, hh], by rw [logV, hh], by rw [thenV, hh]⟩
  | some z =>
    obtain ⟨h, a, b⟩ := z
    refine Or.inr ⟨h, a, b, rfl, ⟨_, by rw [fnV, hh]⟩, ⟨_, by rw [fnV, hh]⟩, by rw [atV, hh], ?_⟩
    rw [logV, thenV, hh]
    dsimp only
    cases logOf (subL S.ls h) with
    | none => exact Or.inl ⟨rfl, rfl⟩
    | some p => exact Or.inr ⟨p, _, rfl, rfl⟩

theorem region_class {P : Program} {id : Nat} {Q : Exit → Act → World → Prop} {a : Act} {w : World} {l : List Oper} (C : World → Prop) (hm : P.follows .mixedOrders = true) (hB : Region.lexB .any l.toArray = true) (hC : C (w.drewN 1))
    (h : wpQuiet P l.toArray C (fun a' => ∀ w', C w' → Q .normal a' w') l a) : (Code.region id l.toArray true).wp P Q a w :=
  wp_region_quiet (C := C) hm hB hC (by simpa using h)

theorem quiet_val {P : Program} {ops : Array Oper} {C : World → Prop} {Q : Act → Prop} {a : Act} {o : Oper} {rest : List Oper} (v : Value) (hw : Region.wanted o (yielded ops a.tmps) = true)
    (h : ∀ w, C w → (execOp a.eval o).run P w = .ok (.value v) w) (hk : wpQuiet P ops C Q rest (a.put o.dst v)) : wpQuiet P ops C Q (o :: rest) a := by
  refine wpQuiet_step fun K hK => ?_
  rw [if_pos hw]
  exact ⟨v, fun w hC => by unfold Oper.quietAt; rw [h w hC]; exact ⟨rfl, rfl⟩, hK _ hk⟩

theorem quiet_call {P : Program} {ops : Array Oper} {C : World → Prop} {Q : Act → Prop} {a : Act} {o : Oper} {rest : List Oper} (v : Value) (f : Nat) (args : Array Value) (hw : Region.wanted o (yielded ops a.tmps) = true)
    (h : ∀ w, C w → (execOp a.eval o).run P w = .ok (.enter f args) w) (hc : ∀ w, C w → Calls P f args w fun e w'' => e = .returned v ∧ C w'') (hk : wpQuiet P ops C Q rest (a.put o.dst v)) : wpQuiet P ops C Q (o :: rest) a := by
  refine wpQuiet_step fun K hK => ?_
  rw [if_pos hw]
  exact ⟨v, fun w hC => by unfold Oper.quietAt; rw [h w hC]; exact ⟨rfl, hc w hC⟩, hK _ hk⟩

theorem load_run {x : Operand} {ρ : Operand → Value} {ty : TypeId} {o : Oper} {w : World} {p : Addr} {v : Value} (ho : o.op = .load ty x) (hx : ρ x = .pointer (some p)) (hg : ∀ w, (isAgg ty).run Try.prog w = .ok false w) (hv : w.cell? p = some v) : (execOp ρ o).run Try.prog w = .ok (.value v) w := by
  unfold execOp
  rw [ho]
  simp [hx, hg, hv, go_sem]

theorem drop_cons {ls : List Layer} {i : Nat} {x : Layer} {r : List Layer} (h : ls.drop i = x :: r) : i + 1 ≤ ls.length ∧ ls.drop (i + 1) = r ∧ x ∈ ls := by
  have h1 : i < ls.length := by
    rcases Nat.lt_or_ge i ls.length with h1 | h1
    · exact h1
    · rw [List.drop_eq_nil_of_le h1] at h; cases h
  refine ⟨h1, ?_, ?_⟩
  · rw [← List.drop_drop, h]; rfl
  · have : x ∈ ls.drop i := by rw [h]; simp
    exact List.mem_of_mem_drop this

set_option maxHeartbeats 8000000 in
set_option maxRecDepth 4000 in
theorem xcheck_calls {w : World} {px pm mp : Nat} {S : RS} (h : ChainAt w px pm mp S) (ho : S.ok) (hz : S.m.zero) (hk : ∀ x ∈ S.ls, x.keyed S.m) :
    Calls Try.prog 62 #[pt px] w fun x w' => x = .returned (.bool true) ∧ Chg [] w w' := by
  have hn := ho.len
  have c0 : w.cell? ⟨px, 0, none⟩ = some (topV pm S.ls) := cell_of h.row rfl
  have c1 : w.cell? ⟨px, 1, none⟩ = some (.int .i64 S.ls.length) := cell_of h.row rfl
  have c2 : w.cell? ⟨px, 2, none⟩ = some (fnV "Get" pm S) := cell_of h.row rfl
  have c3 : w.cell? ⟨px, 3, none⟩ = some (fnV "Put" pm S) := cell_of h.row rfl
  have c4 : w.cell? ⟨px, 4, none⟩ = some (atV S) := cell_of h.row rfl
  have c5 : w.cell? ⟨px, 5, none⟩ = some (logV S) := cell_of h.row rfl
  have c6 : w.cell? ⟨px, 6, none⟩ = some (thenV S) := cell_of h.row rfl
  have H : Hid (ChainAt w px pm mp S) := h
  have HO : Hid S.ok := ho
  have HZ : Hid S.m.zero := hz
  have HK : Hid (∀ x ∈ S.ls, x.keyed S.m) := hk
  have hd : decide ((4 : Int) < (S.ls.length : Int)) = false := by simp; omega
  rcases held_cells pm S with ⟨hh, e2, e3, e4, e5, e6⟩ | ⟨q, a, b, hh, ⟨v2, e2⟩, ⟨v3, e3⟩, e4, he⟩
  · rw [e2] at c2
    rw [e3] at c3
    rw [e4] at c4
    rw [e5] at c5
    rw [e6] at c6
    have hd2 : decide ((S.ls.length : Int) < (-1 : Int)) = false := by simp
    clear h ho hz hk e2 e3 e4 e5 e6 hh
    go_enter Try.func62, Try.ntmps62
    go_wp2_with fail
    go_quiet (fail)
    go_wp2_with fail
    go_quiet (fail)
    go_wp2_with fail
    go_quiet (fail)
    go_wp2_with fail
    clear c2 c3 c4 c5 c6 hd2
    go_loopw [3, 4] (fun v3 v4 wr => ∃ i : Nat, i ≤ S.ls.length ∧ v4 = .int .i64 i ∧ v3 = topV pm (S.ls.drop i) ∧ Chg [] w wr) (fun _ v4 _ => (5 - intOf v4).toNat)
    case atStart => exact ⟨0, by omega, rfl, rfl, (Chg.refl [] w).drewN _⟩
    case round =>
      obtain ⟨i, hi, rfl, rfl, hc⟩ := hrel
      have HC : Hid (Chg [] w wr) := hc
      have hst : StackAt wr pm mp S.m (S.ls.drop i) := StackAt.sub (a := S.ls.take i) (by rw [List.take_append_drop]; exact H.out.st.chg hc (by simp))
      have d1 : wr.cell? ⟨px, 1, none⟩ = some (.int .i64 S.ls.length) := cell_of (hc.keep H.out.row (by simp)) rfl
      clear hc c0 c1
      cases hr : S.ls.drop i with
      | nil =>
        have hil : i = S.ls.length := by have := congrArg List.length hr; simp at this; omega
        rw [hr] at hst
        have HM : Hid (MemAt wr pm mp S.m) := hst
        have t1 := asL_mem pm wr
        have t2 := asS_45_91 pm wr
        have t3 := asS_45_86 pm wr
        have t4 := asM_mem pm wr
        rw [topV]
        have hq : ((i : Int) == (S.ls.length : Int)) = true := by simp [hil]
        clear hst hr hil
        go_wp2_with fail
        refine (sound_calls HM.out HZ.out).mono ?_
        rintro x w2 ⟨rfl, rfl⟩
        go_wp2
        go_ret
        exact ⟨rfl, HC.out⟩
      | cons x r =>
        obtain ⟨hi1, hr1, hx⟩ := drop_cons hr
        rw [hr] at hst
        cases x with
        | logged p l =>
          have g0 : wr.cell? ⟨p, 0, none⟩ = some (topV pm r) := cell_of hst.2.1 rfl
          have t1 := asL_log p wr
          obtain ⟨T, tv, ht⟩ := top_iface pm r
          have HT : Hid (topV pm r = .iface T tv) := ht
          rw [ht] at g0
          rw [topV]
          have HR : Hid (S.ls.drop (i + 1) = r) := hr1
          clear hst hr hr1 hx ht
          go_wp2
          exact ⟨⟨i + 1, by omega, by simp, by rw [HR.out, HT.out], HC.out⟩, by simp [intOf]; omega⟩
        | cached p c =>
          obtain ⟨rfl, g1, g2, g3, g4⟩ := hst
          have hil : i + 1 = S.ls.length := by have := congrArg List.length hr; simp at this; omega
          have k0 : wr.cell? ⟨p, 0, none⟩ = some (pt pm) := cell_of g3 rfl
          have k2 : wr.cell? ⟨p, 2, none⟩ = some (.int .i64 c.key) := cell_of g3 rfl
          have k4 : wr.cell? ⟨p, 4, none⟩ = some (.bool c.full) := cell_of g3 rfl
          have t1 := asL_cac p wr
          have t2 := asS_86_91 p wr
          have t3 := asS_86_86 p wr
          have hq : ((i : Int) + 1 != (S.ls.length : Int)) = false := by simp; omega
          have G3 : Hid (CacAt wr p pm c [] 90) := g3
          have G4 : Hid (MemAt wr pm mp S.m) := g4
          have HX : Hid (keyIn S.m c) := HK.out _ hx
          rw [topV]
          clear hr hil g1 g2 g3 g4 hr1 hx
          go_wp2_with fail
          refine (sound_calls G4.out HZ.out).mono ?_
          rintro x w2 ⟨rfl, hw2⟩
          obtain rfl : wr = w2 := hw2.symm
          cases hf : c.full with
          | false =>
            rw [hf] at k4
            go_wp2
            go_ret
            exact ⟨rfl, HC.out⟩
          | true =>
            rw [hf] at k4
            go_wp2_with fail
            have hb : i64ok c.key := by obtain ⟨j, hj, e, _⟩ := HX.out hf; rw [e]; exact ⟨by omega, by omega⟩
            have kP : ∀ w1, Chg [] wr w1 → w1.cell? ⟨p, 0, none⟩ = some (pt pm) := fun w1 hC => cell_of (hC.keep G3.out (by simp)) rfl
            have kK : ∀ w1, Chg [] wr w1 → w1.cell? ⟨p, 2, none⟩ = some (.int .i64 c.key) := fun w1 hC => cell_of (hC.keep G3.out (by simp)) rfl
            refine region_class (Chg [] wr) (by kernel_rfl) (by kernel_rfl) ((Chg.refl _ _).drewN 1) ?_
            refine quiet_val (pt p) rfl (fun w1 hC => by simp [go_sem]) ?_
            go_simp
            refine quiet_val (pt p) rfl (fun w1 hC => by simp [go_sem]) ?_
            go_simp
            refine quiet_val (pt p) rfl (fun w1 hC => by simp [go_sem]) ?_
            go_simp
            refine quiet_val (pt pm) rfl (fun w1 hC => by have := kP w1 hC; simp [go_sem, this]) ?_
            go_simp
            refine quiet_val (pt p) rfl (fun w1 hC => by simp [go_sem]) ?_
            go_simp
            refine quiet_val (pt p) rfl (fun w1 hC => by simp [go_sem]) ?_
            go_simp
            refine quiet_val (.pointer (some ⟨p, 2, none⟩)) rfl (fun w1 hC => by simp [go_sem]) ?_
            go_simp
            refine quiet_val (.pointer (some ⟨p, 2, none⟩)) rfl (fun w1 hC => by simp [go_sem]) ?_
            go_simp
            refine quiet_val (.int .i64 c.key) rfl (fun w1 hC => by have := kK w1 hC; simp [go_sem, this]) ?_
            go_simp
            refine quiet_call (.tuple #[.int .i64 (rowR S.m c.key).2.1, .int .i64 (rowR S.m c.key).2.2]) 86 #[pt pm, .int .i64 c.key] rfl (fun w1 hC => by simp [go_sem]) (fun w1 hC => (get_calls (G4.out.chg hC (by simp) (by simp)) c.key hb).mono fun e w2 he => ⟨he.1, hC.trans he.2⟩) ?_
            go_simp
            refine quiet_val (.tuple #[.int .i64 (rowR S.m c.key).2.1, .int .i64 (rowR S.m c.key).2.2]) rfl (fun w1 hC => by simp [go_sem]) ?_
            go_simp
            refine quiet_val (.int .i64 (rowR S.m c.key).2.1) rfl (fun w1 hC => by simp [go_sem]) ?_
            go_simp
            refine quiet_val (.int .i64 (rowR S.m c.key).2.2) rfl (fun w1 hC => by simp [go_sem]) ?_
            go_simp
            refine quiet_val (.int .i64 (rowR S.m c.key).2.1) rfl (fun w1 hC => by simp [go_sem]) ?_
            go_simp
            refine quiet_val (.int .i64 (rowR S.m c.key).2.2) rfl (fun w1 hC => by simp [go_sem]) ?_
            go_simp
            refine wpQuiet_nil ?_
            intro w5 hw5
            have HW : Hid (Chg [] w w5) := HC.out.trans hw5
            have he0 : (rowR S.m c.key).2.2 = 0 := by
              obtain ⟨j, hj, e, hh⟩ := HX.out hf
              rw [e, rowR_in hj, if_pos hh]
            rw [he0]
            clear hw5 kP kK
            go_wp2
            go_ret
            exact ⟨rfl, HW.out⟩
        | limited p c =>
          obtain ⟨rfl, g1, g2, g3, g4⟩ := hst
          have hil : i + 1 = S.ls.length := by have := congrArg List.length hr; simp at this; omega
          have k0 : wr.cell? ⟨p, 0, none⟩ = some (pt pm) := cell_of g3 rfl
          have k2 : wr.cell? ⟨p, 2, none⟩ = some (.int .i64 c.key) := cell_of g3 rfl
          have k4 : wr.cell? ⟨p, 4, none⟩ = some (.bool c.full) := cell_of g3 rfl
          have t1 := asL_lim p wr
          have t2 := asS_91_91 p wr
          have k5 : wr.cell? ⟨p, 5, none⟩ = some (.int .i64 2) := cell_of g3 rfl
          have hq : ((i : Int) + 1 != (S.ls.length : Int)) = false := by simp; omega
          have G3 : Hid (CacAt wr p pm c [.int .i64 2] 93) := g3
          have G4 : Hid (MemAt wr pm mp S.m) := g4
          have HX : Hid (keyIn S.m c) := HK.out _ hx
          rw [topV]
          clear hr hil g1 g2 g3 g4 hr1 hx
          go_wp2_with fail
          refine (sound_calls G4.out HZ.out).mono ?_
          rintro x w2 ⟨rfl, hw2⟩
          obtain rfl : wr = w2 := hw2.symm
          cases hf : c.full with
          | false =>
            rw [hf] at k4
            go_wp2
            go_ret
            exact ⟨rfl, HC.out⟩
          | true =>
            rw [hf] at k4
            go_wp2_with fail
            have hb : i64ok c.key := by obtain ⟨j, hj, e, _⟩ := HX.out hf; rw [e]; exact ⟨by omega, by omega⟩
            have kP : ∀ w1, Chg [] wr w1 → w1.cell? ⟨p, 0, none⟩ = some (pt pm) := fun w1 hC => cell_of (hC.keep G3.out (by simp)) rfl
            have kK : ∀ w1, Chg [] wr w1 → w1.cell? ⟨p, 2, none⟩ = some (.int .i64 c.key) := fun w1 hC => cell_of (hC.keep G3.out (by simp)) rfl
            refine region_class (Chg [] wr) (by kernel_rfl) (by kernel_rfl) ((Chg.refl _ _).drewN 1) ?_
            refine quiet_val (pt p) rfl (fun w1 hC => by simp [go_sem]) ?_
            go_simp
            refine quiet_val (pt p) rfl (fun w1 hC => by simp [go_sem]) ?_
            go_simp
            refine quiet_val (pt p) rfl (fun w1 hC => by simp [go_sem]) ?_
            go_simp
            refine quiet_val (pt pm) rfl (fun w1 hC => by have := kP w1 hC; simp [go_sem, this]) ?_
            go_simp
            refine quiet_val (pt p) rfl (fun w1 hC => by simp [go_sem]) ?_
            go_simp
            refine quiet_val (pt p) rfl (fun w1 hC => by simp [go_sem]) ?_
            go_simp
            refine quiet_val (.pointer (some ⟨p, 2, none⟩)) rfl (fun w1 hC => by simp [go_sem]) ?_
            go_simp
            refine quiet_val (.pointer (some ⟨p, 2, none⟩)) rfl (fun w1 hC => by simp [go_sem]) ?_
            go_simp
            refine quiet_val (.int .i64 c.key) rfl (fun w1 hC => by have := kK w1 hC; simp [go_sem, this]) ?_
            go_simp
            refine quiet_call (.tuple #[.int .i64 (rowR S.m c.key).2.1, .int .i64 (rowR S.m c.key).2.2]) 86 #[pt pm, .int .i64 c.key] rfl (fun w1 hC => by simp [go_sem]) (fun w1 hC => (get_calls (G4.out.chg hC (by simp) (by simp)) c.key hb).mono fun e w2 he => ⟨he.1, hC.trans he.2⟩) ?_
            go_simp
            refine quiet_val (.tuple #[.int .i64 (rowR S.m c.key).2.1, .int .i64 (rowR S.m c.key).2.2]) rfl (fun w1 hC => by simp [go_sem]) ?_
            go_simp
            refine quiet_val (.int .i64 (rowR S.m c.key).2.1) rfl (fun w1 hC => by simp [go_sem]) ?_
            go_simp
            refine quiet_val (.int .i64 (rowR S.m c.key).2.2) rfl (fun w1 hC => by simp [go_sem]) ?_
            go_simp
            refine quiet_val (.int .i64 (rowR S.m c.key).2.1) rfl (fun w1 hC => by simp [go_sem]) ?_
            go_simp
            refine quiet_val (.int .i64 (rowR S.m c.key).2.2) rfl (fun w1 hC => by simp [go_sem]) ?_
            go_simp
            refine wpQuiet_nil ?_
            intro w5 hw5
            have HW : Hid (Chg [] w w5) := HC.out.trans hw5
            have he0 : (rowR S.m c.key).2.2 = 0 := by
              obtain ⟨j, hj, e, hh⟩ := HX.out hf
              rw [e, rowR_in hj, if_pos hh]
            rw [he0]
            clear hw5 kP kK
            go_wp2
            go_ret
            exact ⟨rfl, HW.out⟩
  · rw [e2] at c2
    rw [e3] at c3
    rw [e4] at c4
    have hq1 := HO.out.hld q a b hh
    have hd2 : decide (S.ls.length < q) = false := by simp; omega
    have hd5 : decide ((S.ls.length : Int) < ((q : Nat) : Int)) = false := by simp; omega
    have hd3 : decide (((q : Nat) : Int) < (-1 : Int)) = false := by simp
    have hd4 : (((q : Nat) : Int) == (-1 : Int)) = false := by simp
    rcases he with ⟨e5, e6⟩ | ⟨pl, vl, e5, e6⟩
    · rw [e5] at c5
      rw [e6] at c6
      clear h ho hz hk e2 e3 e4 e5 e6 hh hq1
      go_enter Try.func62, Try.ntmps62
      go_wp2_with fail
      go_quiet (fail)
      go_wp2_with fail
      go_quiet (fail)
      go_wp2_with fail
      go_quiet (fail)
      go_wp2_with fail
      clear c2 c3 c4 c5 c6 hd2 hd3 hd4 hd5
      go_loopw [3, 4] (fun v3 v4 wr => ∃ i : Nat, i ≤ S.ls.length ∧ v4 = .int .i64 i ∧ v3 = topV pm (S.ls.drop i) ∧ Chg [] w wr) (fun _ v4 _ => (5 - intOf v4).toNat)
      case atStart => exact ⟨0, by omega, rfl, rfl, (Chg.refl [] w).drewN _⟩
      case round =>
        obtain ⟨i, hi, rfl, rfl, hc⟩ := hrel
        have HC : Hid (Chg [] w wr) := hc
        have hst : StackAt wr pm mp S.m (S.ls.drop i) := StackAt.sub (a := S.ls.take i) (by rw [List.take_append_drop]; exact H.out.st.chg hc (by simp))
        have d1 : wr.cell? ⟨px, 1, none⟩ = some (.int .i64 S.ls.length) := cell_of (hc.keep H.out.row (by simp)) rfl
        clear hc c0 c1
        cases hr : S.ls.drop i with
        | nil =>
          have hil : i = S.ls.length := by have := congrArg List.length hr; simp at this; omega
          rw [hr] at hst
          have HM : Hid (MemAt wr pm mp S.m) := hst
          have t1 := asL_mem pm wr
          have t2 := asS_45_91 pm wr
          have t3 := asS_45_86 pm wr
          have t4 := asM_mem pm wr
          rw [topV]
          have hq : ((i : Int) == (S.ls.length : Int)) = true := by simp [hil]
          clear hst hr hil
          go_wp2_with fail
          refine (sound_calls HM.out HZ.out).mono ?_
          rintro x w2 ⟨rfl, rfl⟩
          go_wp2
          go_ret
          exact ⟨rfl, HC.out⟩
        | cons x r =>
          obtain ⟨hi1, hr1, hx⟩ := drop_cons hr
          rw [hr] at hst
          cases x with
          | logged p l =>
            have g0 : wr.cell? ⟨p, 0, none⟩ = some (topV pm r) := cell_of hst.2.1 rfl
            have t1 := asL_log p wr
            obtain ⟨T, tv, ht⟩ := top_iface pm r
            have HT : Hid (topV pm r = .iface T tv) := ht
            rw [ht] at g0
            rw [topV]
            have HR : Hid (S.ls.drop (i + 1) = r) := hr1
            clear hst hr hr1 hx ht
            go_wp2
            exact ⟨⟨i + 1, by omega, by simp, by rw [HR.out, HT.out], HC.out⟩, by simp [intOf]; omega⟩
          | cached p c =>
            obtain ⟨rfl, g1, g2, g3, g4⟩ := hst
            have hil : i + 1 = S.ls.length := by have := congrArg List.length hr; simp at this; omega
            have k0 : wr.cell? ⟨p, 0, none⟩ = some (pt pm) := cell_of g3 rfl
            have k2 : wr.cell? ⟨p, 2, none⟩ = some (.int .i64 c.key) := cell_of g3 rfl
            have k4 : wr.cell? ⟨p, 4, none⟩ = some (.bool c.full) := cell_of g3 rfl
            have t1 := asL_cac p wr
            have t2 := asS_86_91 p wr
            have t3 := asS_86_86 p wr
            have hq : ((i : Int) + 1 != (S.ls.length : Int)) = false := by simp; omega
            have G3 : Hid (CacAt wr p pm c [] 90) := g3
            have G4 : Hid (MemAt wr pm mp S.m) := g4
            have HX : Hid (keyIn S.m c) := HK.out _ hx
            rw [topV]
            clear hr hil g1 g2 g3 g4 hr1 hx
            go_wp2_with fail
            refine (sound_calls G4.out HZ.out).mono ?_
            rintro x w2 ⟨rfl, hw2⟩
            obtain rfl : wr = w2 := hw2.symm
            cases hf : c.full with
            | false =>
              rw [hf] at k4
              go_wp2
              go_ret
              exact ⟨rfl, HC.out⟩
            | true =>
              rw [hf] at k4
              go_wp2_with fail
              have hb : i64ok c.key := by obtain ⟨j, hj, e, _⟩ := HX.out hf; rw [e]; exact ⟨by omega, by omega⟩
              have kP : ∀ w1, Chg [] wr w1 → w1.cell? ⟨p, 0, none⟩ = some (pt pm) := fun w1 hC => cell_of (hC.keep G3.out (by simp)) rfl
              have kK : ∀ w1, Chg [] wr w1 → w1.cell? ⟨p, 2, none⟩ = some (.int .i64 c.key) := fun w1 hC => cell_of (hC.keep G3.out (by simp)) rfl
              refine region_class (Chg [] wr) (by kernel_rfl) (by kernel_rfl) ((Chg.refl _ _).drewN 1) ?_
              refine quiet_val (pt p) rfl (fun w1 hC => by simp [go_sem]) ?_
              go_simp
              refine quiet_val (pt p) rfl (fun w1 hC => by simp [go_sem]) ?_
              go_simp
              refine quiet_val (pt p) rfl (fun w1 hC => by simp [go_sem]) ?_
              go_simp
              refine quiet_val (pt pm) rfl (fun w1 hC => by have := kP w1 hC; simp [go_sem, this]) ?_
              go_simp
              refine quiet_val (pt p) rfl (fun w1 hC => by simp [go_sem]) ?_
              go_simp
              refine quiet_val (pt p) rfl (fun w1 hC => by simp [go_sem]) ?_
              go_simp
              refine quiet_val (.pointer (some ⟨p, 2, none⟩)) rfl (fun w1 hC => by simp [go_sem]) ?_
              go_simp
              refine quiet_val (.pointer (some ⟨p, 2, none⟩)) rfl (fun w1 hC => by simp [go_sem]) ?_
              go_simp
              refine quiet_val (.int .i64 c.key) rfl (fun w1 hC => by have := kK w1 hC; simp [go_sem, this]) ?_
              go_simp
              refine quiet_call (.tuple #[.int .i64 (rowR S.m c.key).2.1, .int .i64 (rowR S.m c.key).2.2]) 86 #[pt pm, .int .i64 c.key] rfl (fun w1 hC => by simp [go_sem]) (fun w1 hC => (get_calls (G4.out.chg hC (by simp) (by simp)) c.key hb).mono fun e w2 he => ⟨he.1, hC.trans he.2⟩) ?_
              go_simp
              refine quiet_val (.tuple #[.int .i64 (rowR S.m c.key).2.1, .int .i64 (rowR S.m c.key).2.2]) rfl (fun w1 hC => by simp [go_sem]) ?_
              go_simp
              refine quiet_val (.int .i64 (rowR S.m c.key).2.1) rfl (fun w1 hC => by simp [go_sem]) ?_
              go_simp
              refine quiet_val (.int .i64 (rowR S.m c.key).2.2) rfl (fun w1 hC => by simp [go_sem]) ?_
              go_simp
              refine quiet_val (.int .i64 (rowR S.m c.key).2.1) rfl (fun w1 hC => by simp [go_sem]) ?_
              go_simp
              refine quiet_val (.int .i64 (rowR S.m c.key).2.2) rfl (fun w1 hC => by simp [go_sem]) ?_
              go_simp
              refine wpQuiet_nil ?_
              intro w5 hw5
              have HW : Hid (Chg [] w w5) := HC.out.trans hw5
              have he0 : (rowR S.m c.key).2.2 = 0 := by
                obtain ⟨j, hj, e, hh⟩ := HX.out hf
                rw [e, rowR_in hj, if_pos hh]
              rw [he0]
              clear hw5 kP kK
              go_wp2
              go_ret
              exact ⟨rfl, HW.out⟩
          | limited p c =>
            obtain ⟨rfl, g1, g2, g3, g4⟩ := hst
            have hil : i + 1 = S.ls.length := by have := congrArg List.length hr; simp at this; omega
            have k0 : wr.cell? ⟨p, 0, none⟩ = some (pt pm) := cell_of g3 rfl
            have k2 : wr.cell? ⟨p, 2, none⟩ = some (.int .i64 c.key) := cell_of g3 rfl
            have k4 : wr.cell? ⟨p, 4, none⟩ = some (.bool c.full) := cell_of g3 rfl
            have t1 := asL_lim p wr
            have t2 := asS_91_91 p wr
            have k5 : wr.cell? ⟨p, 5, none⟩ = some (.int .i64 2) := cell_of g3 rfl
            have hq : ((i : Int) + 1 != (S.ls.length : Int)) = false := by simp; omega
            have G3 : Hid (CacAt wr p pm c [.int .i64 2] 93) := g3
            have G4 : Hid (MemAt wr pm mp S.m) := g4
            have HX : Hid (keyIn S.m c) := HK.out _ hx
            rw [topV]
            clear hr hil g1 g2 g3 g4 hr1 hx
            go_wp2_with fail
            refine (sound_calls G4.out HZ.out).mono ?_
            rintro x w2 ⟨rfl, hw2⟩
            obtain rfl : wr = w2 := hw2.symm
            cases hf : c.full with
            | false =>
              rw [hf] at k4
              go_wp2
              go_ret
              exact ⟨rfl, HC.out⟩
            | true =>
              rw [hf] at k4
              go_wp2_with fail
              have hb : i64ok c.key := by obtain ⟨j, hj, e, _⟩ := HX.out hf; rw [e]; exact ⟨by omega, by omega⟩
              have kP : ∀ w1, Chg [] wr w1 → w1.cell? ⟨p, 0, none⟩ = some (pt pm) := fun w1 hC => cell_of (hC.keep G3.out (by simp)) rfl
              have kK : ∀ w1, Chg [] wr w1 → w1.cell? ⟨p, 2, none⟩ = some (.int .i64 c.key) := fun w1 hC => cell_of (hC.keep G3.out (by simp)) rfl
              refine region_class (Chg [] wr) (by kernel_rfl) (by kernel_rfl) ((Chg.refl _ _).drewN 1) ?_
              refine quiet_val (pt p) rfl (fun w1 hC => by simp [go_sem]) ?_
              go_simp
              refine quiet_val (pt p) rfl (fun w1 hC => by simp [go_sem]) ?_
              go_simp
              refine quiet_val (pt p) rfl (fun w1 hC => by simp [go_sem]) ?_
              go_simp
              refine quiet_val (pt pm) rfl (fun w1 hC => by have := kP w1 hC; simp [go_sem, this]) ?_
              go_simp
              refine quiet_val (pt p) rfl (fun w1 hC => by simp [go_sem]) ?_
              go_simp
              refine quiet_val (pt p) rfl (fun w1 hC => by simp [go_sem]) ?_
              go_simp
              refine quiet_val (.pointer (some ⟨p, 2, none⟩)) rfl (fun w1 hC => by simp [go_sem]) ?_
              go_simp
              refine quiet_val (.pointer (some ⟨p, 2, none⟩)) rfl (fun w1 hC => by simp [go_sem]) ?_
              go_simp
              refine quiet_val (.int .i64 c.key) rfl (fun w1 hC => by have := kK w1 hC; simp [go_sem, this]) ?_
              go_simp
              refine quiet_call (.tuple #[.int .i64 (rowR S.m c.key).2.1, .int .i64 (rowR S.m c.key).2.2]) 86 #[pt pm, .int .i64 c.key] rfl (fun w1 hC => by simp [go_sem]) (fun w1 hC => (get_calls (G4.out.chg hC (by simp) (by simp)) c.key hb).mono fun e w2 he => ⟨he.1, hC.trans he.2⟩) ?_
              go_simp
              refine quiet_val (.tuple #[.int .i64 (rowR S.m c.key).2.1, .int .i64 (rowR S.m c.key).2.2]) rfl (fun w1 hC => by simp [go_sem]) ?_
              go_simp
              refine quiet_val (.int .i64 (rowR S.m c.key).2.1) rfl (fun w1 hC => by simp [go_sem]) ?_
              go_simp
              refine quiet_val (.int .i64 (rowR S.m c.key).2.2) rfl (fun w1 hC => by simp [go_sem]) ?_
              go_simp
              refine quiet_val (.int .i64 (rowR S.m c.key).2.1) rfl (fun w1 hC => by simp [go_sem]) ?_
              go_simp
              refine quiet_val (.int .i64 (rowR S.m c.key).2.2) rfl (fun w1 hC => by simp [go_sem]) ?_
              go_simp
              refine wpQuiet_nil ?_
              intro w5 hw5
              have HW : Hid (Chg [] w w5) := HC.out.trans hw5
              have he0 : (rowR S.m c.key).2.2 = 0 := by
                obtain ⟨j, hj, e, hh⟩ := HX.out hf
                rw [e, rowR_in hj, if_pos hh]
              rw [he0]
              clear hw5 kP kK
              go_wp2
              go_ret
              exact ⟨rfl, HW.out⟩
    · rw [e5] at c5
      rw [e6] at c6
      clear h ho hz hk e2 e3 e4 e5 e6 hh hq1
      go_enter Try.func62, Try.ntmps62
      go_wp2_with fail
      go_quiet (fail)
      go_wp2_with fail
      go_quiet (fail)
      go_wp2_with fail
      go_quiet (fail)
      go_wp2_with fail
      clear c2 c3 c4 c5 c6 hd2 hd3 hd4 hd5
      go_loopw [3, 4] (fun v3 v4 wr => ∃ i : Nat, i ≤ S.ls.length ∧ v4 = .int .i64 i ∧ v3 = topV pm (S.ls.drop i) ∧ Chg [] w wr) (fun _ v4 _ => (5 - intOf v4).toNat)
      case atStart => exact ⟨0, by omega, rfl, rfl, (Chg.refl [] w).drewN _⟩
      case round =>
        obtain ⟨i, hi, rfl, rfl, hc⟩ := hrel
        have HC : Hid (Chg [] w wr) := hc
        have hst : StackAt wr pm mp S.m (S.ls.drop i) := StackAt.sub (a := S.ls.take i) (by rw [List.take_append_drop]; exact H.out.st.chg hc (by simp))
        have d1 : wr.cell? ⟨px, 1, none⟩ = some (.int .i64 S.ls.length) := cell_of (hc.keep H.out.row (by simp)) rfl
        clear hc c0 c1
        cases hr : S.ls.drop i with
        | nil =>
          have hil : i = S.ls.length := by have := congrArg List.length hr; simp at this; omega
          rw [hr] at hst
          have HM : Hid (MemAt wr pm mp S.m) := hst
          have t1 := asL_mem pm wr
          have t2 := asS_45_91 pm wr
          have t3 := asS_45_86 pm wr
          have t4 := asM_mem pm wr
          rw [topV]
          have hq : ((i : Int) == (S.ls.length : Int)) = true := by simp [hil]
          clear hst hr hil
          go_wp2_with fail
          refine (sound_calls HM.out HZ.out).mono ?_
          rintro x w2 ⟨rfl, rfl⟩
          go_wp2
          go_ret
          exact ⟨rfl, HC.out⟩
        | cons x r =>
          obtain ⟨hi1, hr1, hx⟩ := drop_cons hr
          rw [hr] at hst
          cases x with
          | logged p l =>
            have g0 : wr.cell? ⟨p, 0, none⟩ = some (topV pm r) := cell_of hst.2.1 rfl
            have t1 := asL_log p wr
            obtain ⟨T, tv, ht⟩ := top_iface pm r
            have HT : Hid (topV pm r = .iface T tv) := ht
            rw [ht] at g0
            rw [topV]
            have HR : Hid (S.ls.drop (i + 1) = r) := hr1
            clear hst hr hr1 hx ht
            go_wp2
            exact ⟨⟨i + 1, by omega, by simp, by rw [HR.out, HT.out], HC.out⟩, by simp [intOf]; omega⟩
          | cached p c =>
            obtain ⟨rfl, g1, g2, g3, g4⟩ := hst
            have hil : i + 1 = S.ls.length := by have := congrArg List.length hr; simp at this; omega
            have k0 : wr.cell? ⟨p, 0, none⟩ = some (pt pm) := cell_of g3 rfl
            have k2 : wr.cell? ⟨p, 2, none⟩ = some (.int .i64 c.key) := cell_of g3 rfl
            have k4 : wr.cell? ⟨p, 4, none⟩ = some (.bool c.full) := cell_of g3 rfl
            have t1 := asL_cac p wr
            have t2 := asS_86_91 p wr
            have t3 := asS_86_86 p wr
            have hq : ((i : Int) + 1 != (S.ls.length : Int)) = false := by simp; omega
            have G3 : Hid (CacAt wr p pm c [] 90) := g3
            have G4 : Hid (MemAt wr pm mp S.m) := g4
            have HX : Hid (keyIn S.m c) := HK.out _ hx
            rw [topV]
            clear hr hil g1 g2 g3 g4 hr1 hx
            go_wp2_with fail
            refine (sound_calls G4.out HZ.out).mono ?_
            rintro x w2 ⟨rfl, hw2⟩
            obtain rfl : wr = w2 := hw2.symm
            cases hf : c.full with
            | false =>
              rw [hf] at k4
              go_wp2
              go_ret
              exact ⟨rfl, HC.out⟩
            | true =>
              rw [hf] at k4
              go_wp2_with fail
              have hb : i64ok c.key := by obtain ⟨j, hj, e, _⟩ := HX.out hf; rw [e]; exact ⟨by omega, by omega⟩
              have kP : ∀ w1, Chg [] wr w1 → w1.cell? ⟨p, 0, none⟩ = some (pt pm) := fun w1 hC => cell_of (hC.keep G3.out (by simp)) rfl
              have kK : ∀ w1, Chg [] wr w1 → w1.cell? ⟨p, 2, none⟩ = some (.int .i64 c.key) := fun w1 hC => cell_of (hC.keep G3.out (by simp)) rfl
              refine region_class (Chg [] wr) (by kernel_rfl) (by kernel_rfl) ((Chg.refl _ _).drewN 1) ?_
              refine quiet_val (pt p) rfl (fun w1 hC => by simp [go_sem]) ?_
              go_simp
              refine quiet_val (pt p) rfl (fun w1 hC => by simp [go_sem]) ?_
              go_simp
              refine quiet_val (pt p) rfl (fun w1 hC => by simp [go_sem]) ?_
              go_simp
              refine quiet_val (pt pm) rfl (fun w1 hC => by have := kP w1 hC; simp [go_sem, this]) ?_
              go_simp
              refine quiet_val (pt p) rfl (fun w1 hC => by simp [go_sem]) ?_
              go_simp
              refine quiet_val (pt p) rfl (fun w1 hC => by simp [go_sem]) ?_
              go_simp
              refine quiet_val (.pointer (some ⟨p, 2, none⟩)) rfl (fun w1 hC => by simp [go_sem]) ?_
              go_simp
              refine quiet_val (.pointer (some ⟨p, 2, none⟩)) rfl (fun w1 hC => by simp [go_sem]) ?_
              go_simp
              refine quiet_val (.int .i64 c.key) rfl (fun w1 hC => by have := kK w1 hC; simp [go_sem, this]) ?_
              go_simp
              refine quiet_call (.tuple #[.int .i64 (rowR S.m c.key).2.1, .int .i64 (rowR S.m c.key).2.2]) 86 #[pt pm, .int .i64 c.key] rfl (fun w1 hC => by simp [go_sem]) (fun w1 hC => (get_calls (G4.out.chg hC (by simp) (by simp)) c.key hb).mono fun e w2 he => ⟨he.1, hC.trans he.2⟩) ?_
              go_simp
              refine quiet_val (.tuple #[.int .i64 (rowR S.m c.key).2.1, .int .i64 (rowR S.m c.key).2.2]) rfl (fun w1 hC => by simp [go_sem]) ?_
              go_simp
              refine quiet_val (.int .i64 (rowR S.m c.key).2.1) rfl (fun w1 hC => by simp [go_sem]) ?_
              go_simp
              refine quiet_val (.int .i64 (rowR S.m c.key).2.2) rfl (fun w1 hC => by simp [go_sem]) ?_
              go_simp
              refine quiet_val (.int .i64 (rowR S.m c.key).2.1) rfl (fun w1 hC => by simp [go_sem]) ?_
              go_simp
              refine quiet_val (.int .i64 (rowR S.m c.key).2.2) rfl (fun w1 hC => by simp [go_sem]) ?_
              go_simp
              refine wpQuiet_nil ?_
              intro w5 hw5
              have HW : Hid (Chg [] w w5) := HC.out.trans hw5
              have he0 : (rowR S.m c.key).2.2 = 0 := by
                obtain ⟨j, hj, e, hh⟩ := HX.out hf
                rw [e, rowR_in hj, if_pos hh]
              rw [he0]
              clear hw5 kP kK
              go_wp2
              go_ret
              exact ⟨rfl, HW.out⟩
          | limited p c =>
            obtain ⟨rfl, g1, g2, g3, g4⟩ := hst
            have hil : i + 1 = S.ls.length := by have := congrArg List.length hr; simp at this; omega
            have k0 : wr.cell? ⟨p, 0, none⟩ = some (pt pm) := cell_of g3 rfl
            have k2 : wr.cell? ⟨p, 2, none⟩ = some (.int .i64 c.key) := cell_of g3 rfl
            have k4 : wr.cell? ⟨p, 4, none⟩ = some (.bool c.full) := cell_of g3 rfl
            have t1 := asL_lim p wr
            have t2 := asS_91_91 p wr
            have k5 : wr.cell? ⟨p, 5, none⟩ = some (.int .i64 2) := cell_of g3 rfl
            have hq : ((i : Int) + 1 != (S.ls.length : Int)) = false := by simp; omega
            have G3 : Hid (CacAt wr p pm c [.int .i64 2] 93) := g3
            have G4 : Hid (MemAt wr pm mp S.m) := g4
            have HX : Hid (keyIn S.m c) := HK.out _ hx
            rw [topV]
            clear hr hil g1 g2 g3 g4 hr1 hx
            go_wp2_with fail
            refine (sound_calls G4.out HZ.out).mono ?_
            rintro x w2 ⟨rfl, hw2⟩
            obtain rfl : wr = w2 := hw2.symm
            cases hf : c.full with
            | false =>
              rw [hf] at k4
              go_wp2
              go_ret
              exact ⟨rfl, HC.out⟩
            | true =>
              rw [hf] at k4
              go_wp2_with fail
              have hb : i64ok c.key := by obtain ⟨j, hj, e, _⟩ := HX.out hf; rw [e]; exact ⟨by omega, by omega⟩
              have kP : ∀ w1, Chg [] wr w1 → w1.cell? ⟨p, 0, none⟩ = some (pt pm) := fun w1 hC => cell_of (hC.keep G3.out (by simp)) rfl
              have kK : ∀ w1, Chg [] wr w1 → w1.cell? ⟨p, 2, none⟩ = some (.int .i64 c.key) := fun w1 hC => cell_of (hC.keep G3.out (by simp)) rfl
              refine region_class (Chg [] wr) (by kernel_rfl) (by kernel_rfl) ((Chg.refl _ _).drewN 1) ?_
              refine quiet_val (pt p) rfl (fun w1 hC => by simp [go_sem]) ?_
              go_simp
              refine quiet_val (pt p) rfl (fun w1 hC => by simp [go_sem]) ?_
              go_simp
              refine quiet_val (pt p) rfl (fun w1 hC => by simp [go_sem]) ?_
              go_simp
              refine quiet_val (pt pm) rfl (fun w1 hC => by have := kP w1 hC; simp [go_sem, this]) ?_
              go_simp
              refine quiet_val (pt p) rfl (fun w1 hC => by simp [go_sem]) ?_
              go_simp
              refine quiet_val (pt p) rfl (fun w1 hC => by simp [go_sem]) ?_
              go_simp
              refine quiet_val (.pointer (some ⟨p, 2, none⟩)) rfl (fun w1 hC => by simp [go_sem]) ?_
              go_simp
              refine quiet_val (.pointer (some ⟨p, 2, none⟩)) rfl (fun w1 hC => by simp [go_sem]) ?_
              go_simp
              refine quiet_val (.int .i64 c.key) rfl (fun w1 hC => by have := kK w1 hC; simp [go_sem, this]) ?_
              go_simp
              refine quiet_call (.tuple #[.int .i64 (rowR S.m c.key).2.1, .int .i64 (rowR S.m c.key).2.2]) 86 #[pt pm, .int .i64 c.key] rfl (fun w1 hC => by simp [go_sem]) (fun w1 hC => (get_calls (G4.out.chg hC (by simp) (by simp)) c.key hb).mono fun e w2 he => ⟨he.1, hC.trans he.2⟩) ?_
              go_simp
              refine quiet_val (.tuple #[.int .i64 (rowR S.m c.key).2.1, .int .i64 (rowR S.m c.key).2.2]) rfl (fun w1 hC => by simp [go_sem]) ?_
              go_simp
              refine quiet_val (.int .i64 (rowR S.m c.key).2.1) rfl (fun w1 hC => by simp [go_sem]) ?_
              go_simp
              refine quiet_val (.int .i64 (rowR S.m c.key).2.2) rfl (fun w1 hC => by simp [go_sem]) ?_
              go_simp
              refine quiet_val (.int .i64 (rowR S.m c.key).2.1) rfl (fun w1 hC => by simp [go_sem]) ?_
              go_simp
              refine quiet_val (.int .i64 (rowR S.m c.key).2.2) rfl (fun w1 hC => by simp [go_sem]) ?_
              go_simp
              refine wpQuiet_nil ?_
              intro w5 hw5
              have HW : Hid (Chg [] w w5) := HC.out.trans hw5
              have he0 : (rowR S.m c.key).2.2 = 0 := by
                obtain ⟨j, hj, e, hh⟩ := HX.out hf
                rw [e, rowR_in hj, if_pos hh]
              rw [he0]
              clear hw5 kP kK
              go_wp2
              go_ret
              exact ⟨rfl, HW.out⟩
end Go.Proofs.Qxb6500371a.W

import Derived.Test.Qxb6500371aCh3
import Derived.Laws.ByValue
set_option linter.unusedVariables false
set_option linter.unusedSimpArgs false
namespace Go.Proofs.Qxb6500371a.W
open Go.RowKit Go.Maps

@[go_sem] theorem store_nilFunc {P : Program} {w : World} {a : Addr} {m : Mode} : (store a .nilFunc m).run P w = stored P w a .nilFunc m := run_store P w a _ m rfl
@[go_sem] theorem store_func {P : Program} {w : World} {a : Addr} {m : Mode} (fn : Fn) (first captured : Array Value) : (store a (.func fn first captured) m).run P w = stored P w a (.func fn first captured) m := run_store P w a _ m rfl

def tallyOf : List Layer → Int × Int
  | .logged _ l :: _ => (l.puts, l.dels)
  | _ => (0, 0)
def holdS (S : RS) : RS := ⟨S.m, S.ls, some (S.ls.length, (tallyOf S.ls).1, (tallyOf S.ls).2)⟩

theorem asL_mem (p : Nat) (w : World) : (Instr.typeAssert (.iface 45 (pt p)) 50 53 true).run Try.prog w = .ok (.tuple #[.pointer none, .bool false]) w := by kernel_rfl
theorem asL_cac (p : Nat) (w : World) : (Instr.typeAssert (.iface 86 (pt p)) 50 53 true).run Try.prog w = .ok (.tuple #[.pointer none, .bool false]) w := by kernel_rfl
theorem asL_lim (p : Nat) (w : World) : (Instr.typeAssert (.iface 91 (pt p)) 50 53 true).run Try.prog w = .ok (.tuple #[.pointer none, .bool false]) w := by kernel_rfl
theorem asL_log (p : Nat) (w : World) : (Instr.typeAssert (.iface 53 (pt p)) 50 53 true).run Try.prog w = .ok (.tuple #[pt p, .bool true]) w := by kernel_rfl
theorem asL_top (pm : Nat) (ls : List Layer) (hl : logOf ls = none) : ∃ T v, topV pm ls = .iface T v ∧ ∀ w, (Instr.typeAssert (.iface T v) 50 53 true).run Try.prog w = .ok (.tuple #[.pointer none, .bool false]) w := by
  cases ls with
  | nil => exact ⟨_, _, rfl, asL_mem pm⟩
  | cons x r => cases x with
    | cached p c => exact ⟨_, _, rfl, asL_cac p⟩
    | limited p c => exact ⟨_, _, rfl, asL_lim p⟩
    | logged p c => cases hl

def holdW (w : World) (px : Nat) (a b c d e : Value) : World := ((((w.setCell ⟨px, 2, none⟩ a).setCell ⟨px, 3, none⟩ b).setCell ⟨px, 4, none⟩ c).setCell ⟨px, 5, none⟩ d).setCell ⟨px, 6, none⟩ e

theorem hold_stp {w w' : World} {px pm mp : Nat} {S : RS} (h : ChainAt w px pm mp S) (hc : Chg [px] w w') (hr : w'.heap[px]? = some (.cells (chainCells pm (holdS S)) 56 (0, 0))) : Stp px pm mp S (holdS S) w w' := by
  refine ⟨⟨hr, h.apart, ?_⟩, hc.mono (by simp), fun x hx => Or.inl hx⟩
  refine StackAt.chg hc h.st ?_
  intro y hy hp
  simp only [List.mem_cons, List.not_mem_nil, or_false] at hp
  subst hp
  exact h.apart hy

theorem Chg.px {w : World} {px i : Nat} {v : Value} {a : World} (h : Chg [px] a w) : Chg [px] a (w.setCell ⟨px, i, none⟩ v) := h.setCell (Or.inl (by simp)) v

set_option maxHeartbeats 1000000 in
set_option maxRecDepth 4000 in
theorem xhold_calls {w : World} {px pm mp : Nat} {S : RS} (h : ChainAt w px pm mp S) :
    Calls Try.prog 59 #[pt px] w fun x w' => x = .returned (.int .i64 0) ∧ Stp px pm mp S (holdS S) w w' := by
  have c0 : w.cell? ⟨px, 0, none⟩ = some (topV pm S.ls) := cell_of h.row rfl
  have c1 : w.cell? ⟨px, 1, none⟩ = some (.int .i64 S.ls.length) := cell_of h.row rfl
  have c2 : w.cell? ⟨px, 2, none⟩ = some (fnV "Get" pm S) := cell_of h.row rfl
  have c3 : w.cell? ⟨px, 3, none⟩ = some (fnV "Put" pm S) := cell_of h.row rfl
  have c4 : w.cell? ⟨px, 4, none⟩ = some (atV S) := cell_of h.row rfl
  have c5 : w.cell? ⟨px, 5, none⟩ = some (logV S) := cell_of h.row rfl
  have c6 : w.cell? ⟨px, 6, none⟩ = some (thenV S) := cell_of h.row rfl
  have f2 : w.frozen? ⟨px, 2, none⟩ = false := frozen_of h.row
  have f3 : w.frozen? ⟨px, 3, none⟩ = false := frozen_of h.row
  have f4 : w.frozen? ⟨px, 4, none⟩ = false := frozen_of h.row
  have f5 : w.frozen? ⟨px, 5, none⟩ = false := frozen_of h.row
  have f6 : w.frozen? ⟨px, 6, none⟩ = false := frozen_of h.row
  have H : Hid (ChainAt w px pm mp S) := h
  clear h
  cases hl : logOf S.ls with
  | none =>
    obtain ⟨T, tv, ht, ha⟩ := asL_top pm S.ls hl
    have HT : Hid (topV pm S.ls = .iface T tv) := ht
    have HL : Hid (logOf S.ls = none) := hl
    rw [ht] at c0
    clear ht hl
    go_enter Try.func59, Try.ntmps59
    go_wp2
    go_ret
    refine ⟨rfl, hold_stp H.out (Chg.px (Chg.px (Chg.px (Chg.px (Chg.px (Chg.refl _ _)))))) ?_⟩
    have g1 := heap_setCell_same _ px 2 _ _ (.func (.method "Get") #[.iface T tv] #[]) H.out.row
    have g2 := heap_setCell_same _ px 3 _ _ (.func (.method "Put") #[.iface T tv] #[]) g1
    have g3 := heap_setCell_same _ px 4 _ _ (.int .i64 S.ls.length) g2
    have g4 := heap_setCell_same _ px 5 _ _ (.pointer none) g3
    have g5 := heap_setCell_same _ px 6 _ _ .nilFunc g4
    rw [g5]
    simp [chainCells, holdS, fnV, atV, logV, thenV, subL_all, HL.out, HT.out]
  | some p =>
    cases hls : S.ls with
    | nil => rw [hls] at hl; cases hl
    | cons x r =>
      rw [hls] at hl
      cases x with
      | cached p c => cases hl
      | limited p c => cases hl
      | logged q l =>
        have hst : StackAt w pm mp S.m (.logged q l :: r) := by rw [← hls]; exact H.out.st
        have hpx : px ≠ q := by
          intro e
          have := H.out.apart
          rw [hls, e] at this
          exact this p_bl
        have hpx' : q ≠ px := hpx.symm
        have d1 : w.cell? ⟨q, 1, none⟩ = some (.int .i64 l.puts) := cell_of hst.2.1 rfl
        have d2 : w.cell? ⟨q, 2, none⟩ = some (.int .i64 l.dels) := cell_of hst.2.1 rfl
        have ha := asL_log q
        rw [hls, topV] at c0
        have HX : Hid (S.ls = .logged q l :: r) := hls
        clear hls hst hl
        go_enter Try.func59, Try.ntmps59
        go_wp2
        go_ret
        refine ⟨rfl, hold_stp H.out (Chg.px (Chg.px (Chg.px (Chg.px (Chg.px (Chg.px (Chg.px (Chg.refl _ _)))))))) ?_⟩
        have g1 := heap_setCell_same _ px 2 _ _ (.func (.method "Get") #[.iface 53 (pt q)] #[]) H.out.row
        have g2 := heap_setCell_same _ px 3 _ _ (.func (.method "Put") #[.iface 53 (pt q)] #[]) g1
        have g3 := heap_setCell_same _ px 4 _ _ (.int .i64 S.ls.length) g2
        have g4 := heap_setCell_same _ px 5 _ _ (.pointer none) g3
        have g5 := heap_setCell_same _ px 6 _ _ .nilFunc g4
        have g6 := heap_setCell_same _ px 5 _ _ (pt q) g5
        have g7 := heap_setCell_same _ px 6 _ _ (.func (.func 63) #[.agg #[.int .i64 l.puts, .int .i64 l.dels]] #[]) g6
        rw [g7]
        simp only [chainCells, holdS, fnV, atV, logV, thenV, subL_all, HX.out, topV, logOf, tallyOf]
        simp
end Go.Proofs.Qxb6500371a.W

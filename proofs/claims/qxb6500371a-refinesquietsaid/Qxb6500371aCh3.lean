import Derived.Test.Qxb6500371aCh2
set_option linter.unusedVariables false
set_option linter.unusedSimpArgs false
namespace Go.Proofs.Qxb6500371a.W
open Go.RowKit Go.Maps

def wrapE (S : RS) (k : Int) : Int := if k ≠ 1 ∧ k ≠ 2 ∧ k ≠ 3 then 4 else if 4 ≤ S.ls.length then 5 else if k ≠ 1 ∧ S.ls ≠ [] then 6 else 0
def newL (q : Nat) (k : Int) : Layer := if k = 1 then .logged q ⟨0, 0, none⟩ else if k = 2 then .cached q ⟨0, 0, 0, false⟩ else .limited q ⟨0, 0, 0, false⟩
def wrapS (q : Nat) (S : RS) (k : Int) : RS := if wrapE S k = 0 then ⟨S.m, newL q k :: S.ls, S.held⟩ else S

theorem sub_cons (x : Layer) (ls : List Layer) (h : Nat) (hh : h ≤ ls.length) : subL (x :: ls) h = subL ls h := by
  unfold subL
  simp only [List.length_cons]
  rw [show ls.length + 1 - h = (ls.length - h) + 1 by omega, List.drop_succ_cons]

theorem asM_mem (p : Nat) (w : World) : (Instr.typeAssert (.iface 45 (pt p)) 50 45 true).run Try.prog w = .ok (.tuple #[pt p, .bool true]) w := by kernel_rfl
theorem asM_cac (p : Nat) (w : World) : (Instr.typeAssert (.iface 86 (pt p)) 50 45 true).run Try.prog w = .ok (.tuple #[.pointer none, .bool false]) w := by kernel_rfl
theorem asM_lim (p : Nat) (w : World) : (Instr.typeAssert (.iface 91 (pt p)) 50 45 true).run Try.prog w = .ok (.tuple #[.pointer none, .bool false]) w := by kernel_rfl
theorem asM_log (p : Nat) (w : World) : (Instr.typeAssert (.iface 53 (pt p)) 50 45 true).run Try.prog w = .ok (.tuple #[.pointer none, .bool false]) w := by kernel_rfl
theorem asM_top (pm : Nat) (x : Layer) (r : List Layer) (w : World) : ∃ T v, topV pm (x :: r) = .iface T v ∧ (Instr.typeAssert (.iface T v) 50 45 true).run Try.prog w = .ok (.tuple #[.pointer none, .bool false]) w := by
  cases x with
  | cached p c => exact ⟨_, _, rfl, asM_cac p w⟩
  | limited p c => exact ⟨_, _, rfl, asM_lim p w⟩
  | logged p c => exact ⟨_, _, rfl, asM_log p w⟩

theorem wrapS_same {q : Nat} {S : RS} {k e : Int} (h : wrapE S k = e) (he : e ≠ 0) : wrapS q S k = S := by
  rw [wrapS, if_neg (by rw [h]; exact he)]

/-- The world behind a Wrap that went well. -/
def wrapW (w : World) (px : Nat) (t : Value) (n : Int) (cs : Array Value) (ty : TypeId) : World := ((w.setCell ⟨px, 0, none⟩ t).setCell ⟨px, 1, none⟩ (.int .i64 n)).alloc (.cells cs ty)

theorem wrapW_chg (w : World) (px : Nat) (t : Value) (n : Int) (cs : Array Value) (ty : TypeId) : Chg [px] w (wrapW w px t n cs ty) :=
  (((Chg.refl _ _).setCell (Or.inl (by simp)) _).setCell (Or.inl (by simp)) _).alloc _

theorem wrapW_new (w : World) (px : Nat) (t : Value) (n : Int) (cs : Array Value) (ty : TypeId) : (wrapW w px t n cs ty).heap[w.heap.size]? = some (.cells cs ty (0, 0)) := by
  have e : ((w.setCell ⟨px, 0, none⟩ t).setCell ⟨px, 1, none⟩ (.int .i64 n)).heap.size = w.heap.size := by simp
  rw [← e]
  exact heap_alloc_new _ _

theorem wrap_stp {w : World} {px pm mp : Nat} {S : RS} (h : ChainAt w px pm mp S) (hld : ∀ q a b, S.held = some (q, a, b) → q ≤ S.ls.length) (x : Layer) (t : Value) (cs : Array Value) (ty : TypeId) (n : Int)
    (ht : topV pm (x :: S.ls) = t) (hb : x.blk = w.heap.size) (hn : n = S.ls.length + 1)
    (hs : ∀ w' : World, w'.heap[w.heap.size]? = some (.cells cs ty (0, 0)) → StackAt w' pm mp S.m S.ls → w.heap.size ∉ bl pm mp S.ls → StackAt w' pm mp S.m (x :: S.ls)) :
    Stp px pm mp S ⟨S.m, x :: S.ls, S.held⟩ w (wrapW w px t n cs ty) := by
  have hc := wrapW_chg w px t n cs ty
  have hlt := h.lt
  have hnew : w.heap.size ∉ bl pm mp S.ls := fun hx => by have := hlt _ (List.mem_cons_of_mem _ hx); omega
  have hbl : bl pm mp (x :: S.ls) = w.heap.size :: bl pm mp S.ls := by simp [bl, hb]
  refine ⟨⟨?_, ?_, ?_⟩, hc.mono (by simp), ?_⟩
  · have g1 := heap_setCell_same w px 0 _ _ t h.row
    have g2 := heap_setCell_same _ px 1 _ _ (.int .i64 n) g1
    have g3 : (wrapW w px t n cs ty).heap[px]? = _ := Chg.keep (bs := []) ((Chg.refl _ _).alloc _) g2 (by simp)
    rw [g3]
    have e : chainCells pm ⟨S.m, x :: S.ls, S.held⟩ = ((chainCells pm S).setIfInBounds 0 t).setIfInBounds 1 (.int .i64 n) := by
      have e1 : fnV "Get" pm ⟨S.m, x :: S.ls, S.held⟩ = fnV "Get" pm S ∧ fnV "Put" pm ⟨S.m, x :: S.ls, S.held⟩ = fnV "Put" pm S ∧ logV ⟨S.m, x :: S.ls, S.held⟩ = logV S ∧ thenV ⟨S.m, x :: S.ls, S.held⟩ = thenV S := by
        unfold fnV logV thenV
        cases hh : S.held with
        | none => simp
        | some z =>
          obtain ⟨q, a, b⟩ := z
          have := sub_cons x S.ls q (hld _ _ _ hh)
          simp only [this]
          simp
      unfold chainCells
      rw [e1.1, e1.2.1, e1.2.2.1, e1.2.2.2]
      simp [ht, hn, atV]
    rw [e]
  · show px ∉ bl pm mp (x :: S.ls)
    rw [hbl]
    have := hlt px (by simp)
    intro hx
    rcases List.mem_cons.1 hx with e | e
    · omega
    · exact h.apart e
  · refine hs _ (wrapW_new _ _ _ _ _ _) (StackAt.chg hc h.st ?_) hnew
    intro y hy hp
    simp only [List.mem_cons, List.not_mem_nil, or_false] at hp
    subst hp
    exact h.apart hy
  · intro y hy
    have hy' : y ∈ bl pm mp (x :: S.ls) := hy
    rw [hbl] at hy'
    rcases List.mem_cons.1 hy' with rfl | e
    · exact Or.inr (Nat.le_refl _)
    · exact Or.inl e

set_option maxHeartbeats 1000000 in
set_option maxRecDepth 4000 in
theorem xwrap_calls {w : World} {px pm mp : Nat} {S : RS} (h : ChainAt w px pm mp S) (hn : S.ls.length ≤ 4) (hld : ∀ q a b, S.held = some (q, a, b) → q ≤ S.ls.length) (k : Int) :
    Calls Try.prog 51 #[pt px, .int .i64 k] w fun x w' => x = .returned (.int .i64 (wrapE S k)) ∧ Stp px pm mp S (wrapS w.heap.size S k) w w' := by
  have hp : px < w.heap.size := (Array.getElem?_eq_some_iff.1 h.row).1
  have c0 : w.cell? ⟨px, 0, none⟩ = some (topV pm S.ls) := cell_of h.row rfl
  have c1 : w.cell? ⟨px, 1, none⟩ = some (.int .i64 S.ls.length) := cell_of h.row rfl
  have f0 : w.frozen? ⟨px, 0, none⟩ = false := frozen_of h.row
  have f1 : w.frozen? ⟨px, 1, none⟩ = false := frozen_of h.row
  have H : Hid (ChainAt w px pm mp S) := h
  have HL : Hid (∀ q a b, S.held = some (q, a, b) → q ≤ S.ls.length) := hld
  clear h hld
  by_cases hk : k ≠ 1 ∧ k ≠ 2 ∧ k ≠ 3
  · have e : wrapE S k = 4 := by rw [wrapE, if_pos hk]
    have E : Hid (wrapE S k = 4) := e
    obtain ⟨h1, h2, h3⟩ := hk
    have k1 : (k != 1) = true := by simpa using h1
    have k2 : (k != 2) = true := by simpa using h2
    have k3 : (k != 3) = true := by simpa using h3
    clear e h1 h2 h3
    go_enter Try.func51, Try.ntmps51
    go_wp2
    go_ret
    all_goals (rw [wrapS_same E.out (by omega), E.out]; exact ⟨rfl, Stp.same H.out (Chg.refl _ _)⟩)
  · by_cases hf : 4 ≤ S.ls.length
    · have e : wrapE S k = 5 := by rw [wrapE, if_neg hk, if_pos hf]
      have E : Hid (wrapE S k = 5) := e
      have hl : decide ((4 : Int) ≤ (S.ls.length : Int)) = true := by simp; omega
      have hk' : k = 1 ∨ k = 2 ∨ k = 3 := by omega
      clear e hk hf
      rcases hk' with rfl | rfl | rfl
      all_goals
        go_enter Try.func51, Try.ntmps51
        go_wp2
        go_ret
        rw [E.out, wrapS_same E.out (by omega)]
        exact ⟨rfl, Stp.same H.out (Chg.refl _ _)⟩
    · have hl : decide ((4 : Int) ≤ (S.ls.length : Int)) = false := by simp; omega
      by_cases h1 : k = 1
      · subst h1
        have e : wrapE S 1 = 0 := by rw [wrapE, if_neg hk, if_neg hf, if_neg (by simp)]
        have E : Hid (wrapE S 1 = 0) := e
        obtain ⟨T, tv, ht⟩ := top_iface pm S.ls
        rw [ht] at c0
        have HT : Hid (topV pm S.ls = .iface T tv) := ht
        clear e hk hf ht
        go_enter Try.func51, Try.ntmps51
        go_wp2
        go_ret
        rw [E.out, wrapS, if_pos E.out]
        refine ⟨rfl, ?_⟩
        refine wrap_stp H.out HL.out _ _ _ _ _ rfl rfl rfl ?_
        intro w' hw' hs hq
        refine ⟨hq, ?_, hs⟩
        rw [LogAt, hw', HT.out]
        rfl
      · cases hls : S.ls with
        | cons x r =>
          have e : wrapE S k = 6 := by rw [wrapE, if_neg hk, if_neg hf, if_pos ⟨h1, by simp [hls]⟩]
          have E : Hid (wrapE S k = 6) := e
          have hk' : k = 2 ∨ k = 3 := by omega
          obtain ⟨T, tv, ht, ha⟩ := asM_top pm x r w
          rw [hls, ht] at c0
          have HX : Hid (S.ls = x :: r) := hls
          clear e hk hf ht h1 hls
          rcases hk' with rfl | rfl
          all_goals
            go_enter Try.func51, Try.ntmps51
            go_wp2
            go_ret
            rw [E.out, wrapS_same E.out (by omega)]
            exact ⟨rfl, Stp.same H.out (Chg.refl _ _)⟩
        | nil =>
          have e : wrapE S k = 0 := by rw [wrapE, if_neg hk, if_neg hf, if_neg (by simp [hls])]
          have E : Hid (wrapE S k = 0) := e
          have hk' : k = 2 ∨ k = 3 := by omega
          have ha := asM_mem pm w
          rw [hls, topV] at c0
          have HX : Hid (S.ls = []) := hls
          clear e hk hf h1
          rcases hk' with rfl | rfl
          · go_enter Try.func51, Try.ntmps51
            go_wp2
            go_ret
            rw [E.out, wrapS, if_pos E.out]
            refine ⟨rfl, ?_⟩
            refine wrap_stp H.out HL.out _ _ _ _ _ rfl rfl (by rw [HX.out]; rfl) ?_
            intro w' hw' hs hq
            rw [HX.out] at hs hq ⊢
            refine ⟨rfl, ?_, ?_, ?_, hs⟩
            · intro e; exact hq (by simp [bl, e])
            · intro e; exact hq (by simp [bl, e])
            · rw [CacAt, hw']
          · go_enter Try.func51, Try.ntmps51
            go_wp2
            go_ret
            rw [E.out, wrapS, if_pos E.out]
            refine ⟨rfl, ?_⟩
            refine wrap_stp H.out HL.out _ _ _ _ _ rfl rfl (by rw [HX.out]; rfl) ?_
            intro w' hw' hs hq
            rw [HX.out] at hs hq ⊢
            refine ⟨rfl, ?_, ?_, ?_, hs⟩
            · intro e; exact hq (by simp [bl, e])
            · intro e; exact hq (by simp [bl, e])
            · rw [CacAt, hw']
end Go.Proofs.Qxb6500371a.W

import Derived.Test.Qxb6500371aPut
set_option linter.unusedVariables false
set_option linter.unusedSimpArgs false
namespace Go.Proofs.Qxb6500371a.W
open Go.RowKit Go.Maps

def delF : List Layer → Nat
  | [] => 111
  | .cached _ _ :: _ => 122
  | .limited _ _ :: _ => 122
  | .logged _ _ :: _ => 116

def delL : List Layer → MS → Int → Int × List Layer × MS
  | [], m, k => ((delM m k).1, [], (delM m k).2)
  | .cached p c :: r, m, k => ((delC c m k).1, .cached p (delC c m k).2.1 :: r, (delC c m k).2.2)
  | .limited p c :: r, m, k => ((delC c m k).1, .limited p (delC c m k).2.1 :: r, (delC c m k).2.2)
  | .logged p l :: r, m, k =>
    if (delL r m k).1 = 0 then (0, .logged p ⟨l.puts, wrap64 (l.dels + 1), some (false, k)⟩ :: (delL r m k).2.1, (delL r m k).2.2)
    else ((delL r m k).1, .logged p l :: (delL r m k).2.1, (delL r m k).2.2)

theorem delL_top (pm : Nat) (ls : List Layer) (m : MS) (k : Int) : topV pm (delL ls m k).2.1 = topV pm ls := by
  cases ls with
  | nil => rfl
  | cons x r => cases x <;> simp only [delL] <;> (try split) <;> rfl

theorem delL_bl (pm mp : Nat) (ls : List Layer) (m : MS) (k : Int) : bl pm mp (delL ls m k).2.1 = bl pm mp ls := by
  induction ls with
  | nil => rfl
  | cons x r ih =>
    cases x with
    | cached p c => rfl
    | limited p c => rfl
    | logged p l =>
      simp only [bl, List.append_cancel_right_eq] at ih
      simp only [delL]
      split <;> simp [bl, ih, Layer.blk]

theorem callFd (f : Nat) (h : f ∈ [111, 122, 116]) (args : Array Value) (w : World) : (callFunc f args).run Try.prog w = .ok (.enter f args) w := by
  simp only [List.mem_cons, List.not_mem_nil, or_false] at h
  rcases h with rfl | rfl | rfl <;> kernel_rfl

theorem del_meth (pm : Nat) (ls : List Layer) : ∃ T v, topV pm ls = .iface T v ∧ ∀ w, (method 228 T v "Del").run Try.prog w = .ok (delF ls, recv pm ls) w := by
  cases ls with
  | nil => exact ⟨_, _, rfl, mem_del pm⟩
  | cons x r =>
    cases x with
    | cached p c => exact ⟨_, _, rfl, cached_del p⟩
    | limited p c => exact ⟨_, _, rfl, limited_del p⟩
    | logged p l => exact ⟨_, _, rfl, logged_del p⟩

theorem delF_in (ls : List Layer) : delF ls ∈ [111, 122, 116] := by
  cases ls with
  | nil => simp [delF]
  | cons x r => cases x <;> simp [delF]

set_option maxHeartbeats 1000000 in
set_option maxRecDepth 4000 in
theorem delL_calls {pm mp : Nat} (k : Int) (hk : i64ok k) : ∀ (ls : List Layer) (m : MS) (w : World), StackAt w pm mp m ls →
    Calls Try.prog (delF ls) #[recv pm ls, .int .i64 k] w fun x w' => x = .returned (.int .i64 (delL ls m k).1) ∧ StackAt w' pm mp (delL ls m k).2.2 (delL ls m k).2.1 ∧ Chg (bl pm mp ls) w w'
  | [], m, w, h => (del_calls h k hk).mono fun x w' hx => hx
  | .cached p c :: r, m, w, h => by
    obtain ⟨rfl, h1, h2, h3, h4⟩ := h
    refine (cdel_calls h3 h4 h1 h2 k hk).mono ?_
    rintro x w' ⟨rfl, g1, g2, g3⟩
    exact ⟨rfl, ⟨rfl, h1, h2, g1, g2⟩, g3⟩
  | .limited p c :: r, m, w, h => by
    obtain ⟨rfl, h1, h2, h3, h4⟩ := h
    refine (cdel_calls h3 h4 h1 h2 k hk).mono ?_
    rintro x w' ⟨rfl, g1, g2, g3⟩
    exact ⟨rfl, ⟨rfl, h1, h2, g1, g2⟩, g3⟩
  | .logged p l :: r, m, w, h => by
    obtain ⟨h1, h2, h3⟩ := h
    have IH := delL_calls (pm := pm) (mp := mp) k hk r m
    obtain ⟨T, tv, ht, hm⟩ := del_meth pm r
    have hcf := fun args w => callFd (delF r) (delF_in r) args w
    have c0 : w.cell? ⟨p, 0, none⟩ = some (.iface T tv) := by rw [← ht]; exact cell_of h2 rfl
    have IH' : Hid (∀ (w : World), StackAt w pm mp m r →
      Calls Try.prog (delF r) #[recv pm r, .int .i64 k] w fun x w' => x = .returned (.int .i64 (delL r m k).1) ∧ StackAt w' pm mp (delL r m k).2.2 (delL r m k).2.1 ∧ Chg (bl pm mp r) w w') := IH
    have H1 : Hid (p ∉ bl pm mp r) := h1
    have H2 : Hid (LogAt w p (topV pm r) l) := h2
    have H3 : Hid (StackAt w pm mp m r) := h3
    clear IH ht h1 h2 h3
    show Calls Try.prog 116 #[pt p, .int .i64 k] w _
    go_enter Try.func116, Try.ntmps116
    go_wp2_with fail
    refine (IH'.out _ H3.out).mono ?_
    rintro e w2 ⟨rfl, hs2, hc2⟩
    have hL2 : LogAt w2 p (topV pm r) l := H2.out.chg hc2 H1.out
    have e2 : w2.cell? ⟨p, 2, none⟩ = some (.int .i64 l.dels) := cell_of hL2 rfl
    have e3 : w2.cell? ⟨p, 3, none⟩ = some (evV l.last) := cell_of hL2 rfl
    have f2 : w2.frozen? ⟨p, 2, none⟩ = false := frozen_of hL2
    have f3 : w2.frozen? ⟨p, 3, none⟩ = false := frozen_of hL2
    have hcc : Chg (bl pm mp (.logged p l :: r)) w w2 := hc2.mono blk_bl
    have HL2 : Hid (LogAt w2 p (topV pm r) l) := hL2
    have HS2 : Hid (StackAt w2 pm mp (delL r m k).2.2 (delL r m k).2.1) := hs2
    have HCC : Hid (Chg (bl pm mp (.logged p l :: r)) w w2) := hcc
    clear hL2 hs2 hc2 hcc
    generalize hz : delL r m k = z at HS2 ⊢
    obtain ⟨ze, zl, zm⟩ := z
    have hbl : bl pm mp zl = bl pm mp r := by have := delL_bl pm mp r m k; rw [hz] at this; exact this
    have htop : topV pm zl = topV pm r := by have := delL_top pm r m k; rw [hz] at this; exact this
    have HB : Hid (bl pm mp zl = bl pm mp r) := hbl
    have HT2 : Hid (topV pm zl = topV pm r) := htop
    have HZ : Hid (delL r m k = (ze, zl, zm)) := hz
    clear hz hbl htop
    by_cases he : ze = 0
    · subst he
      go_wp2
      go_ret
      have e1 : delL (.logged p l :: r) m k = (0, .logged p ⟨l.puts, wrap64 (l.dels + 1), some (false, k)⟩ :: zl, zm) := by rw [delL, HZ.out, if_pos rfl]
      rw [e1]
      refine ⟨rfl, ⟨?_, ?_, ?_⟩, ?_⟩
      · rw [HB.out]; exact H1.out
      · have g2 := heap_setCell_same w2 p 2 _ _ (.int .i64 (wrap64 (l.dels + 1))) HL2.out
        have g3 := heap_setCell_same _ p 3 _ _ (.iface 121 (.int .i64 k)) g2
        rw [LogAt, HT2.out]
        rw [g3]
        simp [evV]
      · refine StackAt.chg (bs := [p]) (((Chg.refl _ _).setCell (Or.inl (by simp)) _).setCell (Or.inl (by simp)) _) HS2.out ?_
        intro x hx hp
        rw [HB.out] at hx
        simp only [List.mem_cons, List.not_mem_nil, or_false] at hp
        subst hp
        exact H1.out hx
      · exact (HCC.out.setCell (Or.inl p_bl) _).setCell (Or.inl p_bl) _
    · have he' : (ze == 0) = false := by simpa using he
      go_wp2
      go_ret
      have e1 : delL (.logged p l :: r) m k = (ze, .logged p l :: zl, zm) := by rw [delL, HZ.out, if_neg he]
      rw [e1]
      refine ⟨rfl, ⟨?_, ?_, ?_⟩, ?_⟩
      · rw [HB.out]; exact H1.out
      · rw [HT2.out]; exact HL2.out
      · exact HS2.out
      · exact HCC.out
end Go.Proofs.Qxb6500371a.W

import Derived.Test.Qxb6500371aLay
set_option linter.unusedVariables false
set_option linter.unusedSimpArgs false
namespace Go.Proofs.Qxb6500371a.W
open Go.RowKit Go.Maps

def recv (pm : Nat) : List Layer → Value
  | [] => pt pm
  | x :: _ => pt x.blk

def putF : List Layer → Nat
  | [] => 114
  | .cached _ _ :: _ => 126
  | .limited _ _ :: _ => 130
  | .logged _ _ :: _ => 118

def putL : List Layer → MS → Int → Int → Int × List Layer × MS
  | [], m, k, v => ((putM m k v).1, [], (putM m k v).2)
  | .cached p c :: r, m, k, v => ((putC c m k v).1, .cached p (putC c m k v).2.1 :: r, (putC c m k v).2.2)
  | .limited p c :: r, m, k, v => ((putLim c m k v).1, .limited p (putLim c m k v).2.1 :: r, (putLim c m k v).2.2)
  | .logged p l :: r, m, k, v =>
    if (putL r m k v).1 = 0 then (0, .logged p ⟨wrap64 (l.puts + 1), l.dels, some (true, k)⟩ :: (putL r m k v).2.1, (putL r m k v).2.2)
    else ((putL r m k v).1, .logged p l :: (putL r m k v).2.1, (putL r m k v).2.2)

theorem putL_top (pm : Nat) (ls : List Layer) (m : MS) (k v : Int) : topV pm (putL ls m k v).2.1 = topV pm ls := by
  cases ls with
  | nil => rfl
  | cons x r => cases x <;> simp only [putL] <;> (try split) <;> rfl

theorem putL_bl (pm mp : Nat) (ls : List Layer) (m : MS) (k v : Int) : bl pm mp (putL ls m k v).2.1 = bl pm mp ls := by
  induction ls with
  | nil => rfl
  | cons x r ih =>
    cases x with
    | cached p c => rfl
    | limited p c => rfl
    | logged p l =>
      simp only [bl, List.append_cancel_right_eq] at ih
      simp only [putL]
      split <;> simp [bl, ih, Layer.blk]

theorem callF (f : Nat) (h : f ∈ [114, 126, 130, 118]) (args : Array Value) (w : World) : (callFunc f args).run Try.prog w = .ok (.enter f args) w := by
  simp only [List.mem_cons, List.not_mem_nil, or_false] at h
  rcases h with rfl | rfl | rfl | rfl <;> kernel_rfl

theorem put_meth (pm : Nat) (ls : List Layer) : ∃ T v, topV pm ls = .iface T v ∧ ∀ w, (method 228 T v "Put").run Try.prog w = .ok (putF ls, recv pm ls) w := by
  cases ls with
  | nil => exact ⟨_, _, rfl, mem_put pm⟩
  | cons x r =>
    cases x with
    | cached p c => exact ⟨_, _, rfl, cached_put p⟩
    | limited p c => exact ⟨_, _, rfl, limited_put p⟩
    | logged p l => exact ⟨_, _, rfl, logged_put p⟩

theorem putF_in (ls : List Layer) : putF ls ∈ [114, 126, 130, 118] := by
  cases ls with
  | nil => simp [putF]
  | cons x r => cases x <;> simp [putF]

theorem StackAt.lt {w : World} {pm mp : Nat} {m : MS} : ∀ {ls : List Layer}, StackAt w pm mp m ls → ∀ x ∈ bl pm mp ls, x < w.heap.size
  | [], h, x, hx => by
    simp only [bl, List.map_nil, List.nil_append, List.mem_cons, List.not_mem_nil, or_false] at hx
    rcases hx with rfl | rfl
    · exact (Array.getElem?_eq_some_iff.1 h.1).1
    · exact h.2.lt
  | .cached p c :: r, h, x, hx => by
    obtain ⟨rfl, _, _, h1, h2⟩ := h
    simp only [bl, List.map_nil, List.map_cons, Layer.blk, List.cons_append, List.nil_append, List.mem_cons, List.not_mem_nil, or_false] at hx
    rcases hx with rfl | rfl | rfl
    · exact (Array.getElem?_eq_some_iff.1 h1).1
    · exact (Array.getElem?_eq_some_iff.1 h2.1).1
    · exact h2.2.lt
  | .limited p c :: r, h, x, hx => by
    obtain ⟨rfl, _, _, h1, h2⟩ := h
    simp only [bl, List.map_nil, List.map_cons, Layer.blk, List.cons_append, List.nil_append, List.mem_cons, List.not_mem_nil, or_false] at hx
    rcases hx with rfl | rfl | rfl
    · exact (Array.getElem?_eq_some_iff.1 h1).1
    · exact (Array.getElem?_eq_some_iff.1 h2.1).1
    · exact h2.2.lt
  | .logged p l :: r, h, x, hx => by
    obtain ⟨_, h1, h2⟩ := h
    simp only [bl, List.map_cons, Layer.blk, List.cons_append, List.mem_cons] at hx
    rcases hx with rfl | hx
    · exact (Array.getElem?_eq_some_iff.1 h1).1
    · exact StackAt.lt h2 x hx

theorem blk_bl {pm mp p : Nat} {l : LS} {r : List Layer} : ∀ x, x ∈ bl pm mp r → x ∈ bl pm mp (.logged p l :: r) := by
  intro x hx
  simp only [bl, List.map_cons, List.cons_append, List.mem_cons]
  exact Or.inr hx

theorem p_bl {pm mp p : Nat} {l : LS} {r : List Layer} : p ∈ bl pm mp (.logged p l :: r) := by
  simp [bl, Layer.blk]

set_option maxHeartbeats 1000000 in
set_option maxRecDepth 4000 in
theorem putL_calls {pm mp : Nat} (k v : Int) (hk : i64ok k) : ∀ (ls : List Layer) (m : MS) (w : World), StackAt w pm mp m ls →
    Calls Try.prog (putF ls) #[recv pm ls, .int .i64 k, .int .i64 v] w fun x w' => x = .returned (.int .i64 (putL ls m k v).1) ∧ StackAt w' pm mp (putL ls m k v).2.2 (putL ls m k v).2.1 ∧ Chg (bl pm mp ls) w w'
  | [], m, w, h => (put_calls h k v hk).mono fun x w' hx => hx
  | .cached p c :: r, m, w, h => by
    obtain ⟨rfl, h1, h2, h3, h4⟩ := h
    refine (cput_calls h3 h4 h1 h2 k v hk).mono ?_
    rintro x w' ⟨rfl, g1, g2, g3⟩
    exact ⟨rfl, ⟨rfl, h1, h2, g1, g2⟩, g3⟩
  | .limited p c :: r, m, w, h => by
    obtain ⟨rfl, h1, h2, h3, h4⟩ := h
    refine (lput_calls h3 h4 h1 h2 k v hk).mono ?_
    rintro x w' ⟨rfl, g1, g2, g3⟩
    exact ⟨rfl, ⟨rfl, h1, h2, g1, g2⟩, g3⟩
  | .logged p l :: r, m, w, h => by
    obtain ⟨h1, h2, h3⟩ := h
    have IH := putL_calls (pm := pm) (mp := mp) k v hk r m
    obtain ⟨T, tv, ht, hm⟩ := put_meth pm r
    have hcf := fun args w => callF (putF r) (putF_in r) args w
    have hp : p < w.heap.size := (Array.getElem?_eq_some_iff.1 h2).1
    have c1 : w.cell? ⟨p, 1, none⟩ = some (.int .i64 l.puts) := cell_of h2 rfl
    have c2 : w.cell? ⟨p, 2, none⟩ = some (.int .i64 l.dels) := cell_of h2 rfl
    have IH' : Hid (∀ (w : World), StackAt w pm mp m r →
      Calls Try.prog (putF r) #[recv pm r, .int .i64 k, .int .i64 v] w fun x w' => x = .returned (.int .i64 (putL r m k v).1) ∧ StackAt w' pm mp (putL r m k v).2.2 (putL r m k v).2.1 ∧ Chg (bl pm mp r) w w') := IH
    have HT : Hid (topV pm r = .iface T tv) := ht
    have H1 : Hid (p ∉ bl pm mp r) := h1
    have H2 : Hid (LogAt w p (topV pm r) l) := h2
    have H3 : Hid (StackAt w pm mp m r) := h3
    clear IH ht h1 h2 h3
    show Calls Try.prog 118 #[pt p, .int .i64 k, .int .i64 v] w _
    go_enter Try.func118, Try.ntmps118
    go_wp2_with fail
    refine (bump_calls _ _ _).mono ?_
    rintro e w1 ⟨rfl, hc1⟩
    have h2 := H2.out.chg hc1 (by simp)
    have d0 : w1.cell? ⟨p, 0, none⟩ = some (.iface T tv) := by rw [← HT.out]; exact cell_of h2 rfl
    have hp1 : p < w1.heap.size := (Array.getElem?_eq_some_iff.1 h2).1
    have hS : StackAt (w1.alloc (.cells #[.int .i64 (wrap64 (l.puts + 1)), .int .i64 l.dels] 72)) pm mp m r := StackAt.chg (bs := []) (hc1.alloc _) H3.out (by simp)
    have HL : Hid (LogAt w1 p (topV pm r) l) := h2
    have HS : Hid (StackAt (w1.alloc (.cells #[.int .i64 (wrap64 (l.puts + 1)), .int .i64 l.dels] 72)) pm mp m r) := hS
    have hlt : Hid (∀ x ∈ bl pm mp r, x < w1.heap.size) := fun x hx => Nat.lt_of_lt_of_le (H3.out.lt x hx) hc1.size
    have HC1 : Hid (Chg [] w w1) := hc1
    clear h2 hS hc1
    go_wp2_with fail
    refine (IH'.out _ HS.out).mono ?_
    rintro e w2 ⟨rfl, hs2, hc2⟩
    have hq : w2.heap[w1.heap.size]? = some (.cells #[.int .i64 (wrap64 (l.puts + 1)), .int .i64 l.dels] 72 (0, 0)) := hc2.keep (heap_alloc_new _ _) (fun hx => by have := hlt.out _ hx; omega)
    have hL2 : LogAt w2 p (topV pm r) l := (LogAt.chg (bs := []) HL.out ((Chg.refl _ _).alloc _) (by simp)).chg hc2 H1.out
    have q0 : w2.cell? ⟨w1.heap.size, 0, none⟩ = some (.int .i64 (wrap64 (l.puts + 1))) := cell_of hq rfl
    have q1 : w2.cell? ⟨w1.heap.size, 1, none⟩ = some (.int .i64 l.dels) := cell_of hq rfl
    have e1 : w2.cell? ⟨p, 1, none⟩ = some (.int .i64 l.puts) := cell_of hL2 rfl
    have e2 : w2.cell? ⟨p, 2, none⟩ = some (.int .i64 l.dels) := cell_of hL2 rfl
    have e3 : w2.cell? ⟨p, 3, none⟩ = some (evV l.last) := cell_of hL2 rfl
    have f1 : w2.frozen? ⟨p, 1, none⟩ = false := frozen_of hL2
    have f2 : w2.frozen? ⟨p, 2, none⟩ = false := frozen_of hL2
    have f3 : w2.frozen? ⟨p, 3, none⟩ = false := frozen_of hL2
    have hcc : Chg (bl pm mp (.logged p l :: r)) w w2 := ((HC1.out.alloc _).any).trans (hc2.mono blk_bl)
    have HL2 : Hid (LogAt w2 p (topV pm r) l) := hL2
    have HS2 : Hid (StackAt w2 pm mp (putL r m k v).2.2 (putL r m k v).2.1) := hs2
    have HCC : Hid (Chg (bl pm mp (.logged p l :: r)) w w2) := hcc
    clear hq hL2 hs2 hc2 hcc
    generalize hz : putL r m k v = z at HS2 ⊢
    obtain ⟨ze, zl, zm⟩ := z
    have hbl : bl pm mp zl = bl pm mp r := by have := putL_bl pm mp r m k v; rw [hz] at this; exact this
    have htop : topV pm zl = topV pm r := by have := putL_top pm r m k v; rw [hz] at this; exact this
    have HB : Hid (bl pm mp zl = bl pm mp r) := hbl
    have HT2 : Hid (topV pm zl = topV pm r) := htop
    have HZ : Hid (putL r m k v = (ze, zl, zm)) := hz
    clear hz hbl htop
    by_cases he : ze = 0
    · subst he
      go_wp2
      go_ret
      have e1 : putL (.logged p l :: r) m k v = (0, .logged p ⟨wrap64 (l.puts + 1), l.dels, some (true, k)⟩ :: zl, zm) := by rw [putL, HZ.out, if_pos rfl]
      rw [e1]
      refine ⟨rfl, ⟨?_, ?_, ?_⟩, ?_⟩
      · rw [HB.out]; exact H1.out
      · have g1 := heap_setCell_same w2 p 1 _ _ (.int .i64 (wrap64 (l.puts + 1))) HL2.out
        have g2 := heap_setCell_same _ p 2 _ _ (.int .i64 l.dels) g1
        have g3 := heap_setCell_same _ p 3 _ _ (.iface 123 (.int .i64 k)) g2
        rw [LogAt, HT2.out]
        rw [g3]
        simp [evV]
      · refine StackAt.chg (bs := [p]) ((((Chg.refl _ _).setCell (Or.inl (by simp)) _).setCell (Or.inl (by simp)) _).setCell (Or.inl (by simp)) _) HS2.out ?_
        intro x hx hp
        rw [HB.out] at hx
        simp only [List.mem_cons, List.not_mem_nil, or_false] at hp
        subst hp
        exact H1.out hx
      · exact ((HCC.out.setCell (Or.inl p_bl) _).setCell (Or.inl p_bl) _).setCell (Or.inl p_bl) _
    · have he' : (ze == 0) = false := by simpa using he
      go_wp2
      go_ret
      have e1 : putL (.logged p l :: r) m k v = (ze, .logged p l :: zl, zm) := by rw [putL, HZ.out, if_neg he]
      rw [e1]
      refine ⟨rfl, ⟨?_, ?_, ?_⟩, ?_⟩
      · rw [HB.out]; exact H1.out
      · rw [HT2.out]; exact HL2.out
      · exact HS2.out
      · exact HCC.out
end Go.Proofs.Qxb6500371a.W

import Derived.Test.Qxb6500374aDm
import Derived.Deep.Slices
set_option linter.unusedVariables false
set_option linter.unusedSimpArgs false
namespace Go.Proofs.Qxb6500374a.W
open Go.RowKit Go.Maps Go.ChangeShapes Go.WideShapes

/-- The script, as it lies. -/
def ScriptAt (w : World) (ap : Option Addr) (len : Nat) (f : Nat → OpD) : Prop :=
  len = 0 ∨ ∃ b off, ap = some ⟨b, off, none⟩ ∧ b < w.heap.size ∧ ∀ i, i < len →
    w.cell? ⟨b, off + i * 6, none⟩ = some (.int .i64 (f i).kind) ∧ w.cell? ⟨b, off + i * 6 + 1, none⟩ = some (.int .i64 (f i).a) ∧ w.cell? ⟨b, off + i * 6 + 2, none⟩ = some (.int .i64 (f i).b) ∧
    w.cell? ⟨b, off + i * 6 + 3, none⟩ = some (.int .i64 (f i).c) ∧ w.cell? ⟨b, off + i * 6 + 4, none⟩ = some (.string (f i).s) ∧ w.cell? ⟨b, off + i * 6 + 5, none⟩ = some (.string (f i).t)

theorem cell_same {w w' : World} {b i : Nat} (h : w'.heap[b]? = w.heap[b]?) : w'.cell? ⟨b, i, none⟩ = w.cell? ⟨b, i, none⟩ := by
  simp only [World.cell?, h]

theorem cells63 : Try.prog.cellsOf 63 = 6 := by kernel_rfl
theorem cells3 : Try.prog.cellsOf 3 = 1 := by kernel_rfl
theorem cells9 : Try.prog.cellsOf 9 = 1 := by kernel_rfl

theorem cons_of {α : Type} {n : Nat} {l : List α} (h : l.length = n + 1) : ∃ a t, l = a :: t ∧ t.length = n := by
  cases l with
  | nil => simp at h
  | cons a t => exact ⟨a, t, rfl, by simpa using h⟩

instance : Inhabited OpD := ⟨⟨0, 0, 0, 0, ⟨#[]⟩, ⟨#[]⟩⟩⟩

theorem script_open {H : Type} {enc : TypeId × Value → H} {w : World} {base : Nat} {spare : Nat → Bool} {held : Bool} {fuel : Nat} {ap : Option Addr} {len cap : Nat} {x : DataW H × List MemPlace}
    (h : DataW.trod enc Try.prog w base spare held fuel 22 [.slice ap len cap] = some x) : len ≤ maxLen ∧ ∃ f, ScriptAt w ap len f := by
  rcases Deep.open_slice Try.underlying22 h with ⟨e, _⟩ | ⟨a, len', cap', m, n, D, Pl, e, hb, hl, hm, hmm, _, hx⟩
  · simp only [List.cons.injEq, Value.slice.injEq, and_true] at e
    obtain ⟨rfl, rfl, rfl⟩ := e
    exact ⟨by decide, fun _ => ⟨0, 0, 0, 0, ⟨#[]⟩, ⟨#[]⟩⟩, Or.inl rfl⟩
  · simp only [List.cons.injEq, Value.slice.injEq, and_true] at e
    obtain ⟨rfl, rfl, rfl⟩ := e
    refine ⟨by omega, ?_⟩
    have hlm : len ≤ m := by rw [hmm]; split <;> omega
    have each : ∀ i, i < len → ∃ o : OpD, w.cell? (a.add (i * 6)) = some (.int .i64 o.kind) ∧ w.cell? (a.add (i * 6 + 1)) = some (.int .i64 o.a) ∧ w.cell? (a.add (i * 6 + 2)) = some (.int .i64 o.b) ∧
        w.cell? (a.add (i * 6 + 3)) = some (.int .i64 o.c) ∧ w.cell? (a.add (i * 6 + 4)) = some (.string o.s) ∧ w.cell? (a.add (i * 6 + 5)) = some (.string o.t) := by
      intro i hi
      obtain ⟨cs', h1, h2⟩ := hx i (by omega)
      rw [cells63] at h1
      obtain ⟨_, hlen, hcell⟩ := World.cells?_some h1
      obtain ⟨xs, k, hk, hxy, _, hxl, hf⟩ := DataW.trod_struct Try.underlying63 h2
      obtain ⟨v0, c0, rfl, l0⟩ := cons_of hlen
      obtain ⟨v1, c1, rfl, l1⟩ := cons_of l0
      obtain ⟨v2, c2, rfl, l2⟩ := cons_of l1
      obtain ⟨v3, c3, rfl, l3⟩ := cons_of l2
      obtain ⟨v4, c4, rfl, l4⟩ := cons_of l3
      obtain ⟨v5, c5, rfl, l5⟩ := cons_of l4
      obtain rfl : c5 = [] := List.length_eq_zero_iff.1 l5
      have hxl' : xs.length = 6 := hxl
      obtain ⟨y0, z0, rfl, m0⟩ := cons_of hxl'
      obtain ⟨y1, z1, rfl, m1⟩ := cons_of m0
      obtain ⟨y2, z2, rfl, m2⟩ := cons_of m1
      obtain ⟨y3, z3, rfl, m3⟩ := cons_of m2
      obtain ⟨y4, z4, rfl, m4⟩ := cons_of m3
      obtain ⟨y5, z5, rfl, m5⟩ := cons_of m4
      have e0 := hcell 0 (by omega)
      have e1 := hcell 1 (by omega)
      have e2 := hcell 2 (by omega)
      have e3 := hcell 3 (by omega)
      have e4 := hcell 4 (by omega)
      have e5 := hcell 5 (by omega)
      rw [Deep.add_add] at e0 e1 e2 e3 e4 e5
      have g0 : DataW.trod enc Try.prog w base spare held k 3 [v0] = some y0 := by
        have := hf 0 _ rfl
        simpa [cells3] using this
      have g1 : DataW.trod enc Try.prog w base spare held k 3 [v1] = some y1 := by
        have := hf 1 _ rfl
        simpa [cells3] using this
      have g2 : DataW.trod enc Try.prog w base spare held k 3 [v2] = some y2 := by
        have := hf 2 _ rfl
        simpa [cells3] using this
      have g3 : DataW.trod enc Try.prog w base spare held k 3 [v3] = some y3 := by
        have := hf 3 _ rfl
        simpa [cells3] using this
      have g4 : DataW.trod enc Try.prog w base spare held k 9 [v4] = some y4 := by
        have := hf 4 _ rfl
        simpa [cells9] using this
      have g5 : DataW.trod enc Try.prog w base spare held k 9 [v5] = some y5 := by
        have := hf 5 _ rfl
        simpa [cells9] using this
      obtain ⟨n0, q0, _, w0⟩ := DataW.trod_int Try.underlying3 g0
      obtain ⟨n1, q1, _, w1⟩ := DataW.trod_int Try.underlying3 g1
      obtain ⟨n2, q2, _, w2⟩ := DataW.trod_int Try.underlying3 g2
      obtain ⟨n3, q3, _, w3⟩ := DataW.trod_int Try.underlying3 g3
      obtain ⟨s4, q4, _, w4⟩ := DataW.trod_string Try.underlying9 g4
      obtain ⟨s5, q5, _, w5⟩ := DataW.trod_string Try.underlying9 g5
      simp at q0 q1 q2 q3 q4 q5
      subst q0 q1 q2 q3 q4 q5
      exact ⟨⟨n0, n1, n2, n3, s4, s5⟩, by simpa using e0, by simpa using e1, by simpa using e2, by simpa using e3, by simpa using e4, by simpa using e5⟩
    obtain ⟨f, hf⟩ := Deep.choose_lt each
    refine ⟨f, ?_⟩
    by_cases h0 : len = 0
    · exact Or.inl h0
    · have hsp := World.cell?_spot (hf 0 (by omega)).1
      obtain ⟨ab, ao, asp⟩ := a
      have hsp2 : asp = none := by
        unfold Addr.add at hsp
        cases asp with
        | none => rfl
        | some z => simp at hsp
      subst hsp2
      have had : ∀ k, (⟨ab, ao, none⟩ : Addr).add k = ⟨ab, ao + k, none⟩ := by intro k; unfold Addr.add; split <;> simp_all
      refine Or.inr ⟨ab, ao, rfl, ?_, fun i hi => ?_⟩
      · have := (hf 0 (by omega)).1
        rw [had] at this
        unfold World.cell? at this
        split at this
        · rename_i hh; exact (Array.getElem?_eq_some_iff.1 hh).1
        · cases this
      · have := hf i hi
        simp only [had] at this
        simpa only [Nat.add_assoc] using this
end Go.Proofs.Qxb6500374a.W

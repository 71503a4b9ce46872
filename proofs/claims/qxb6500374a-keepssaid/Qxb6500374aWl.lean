import Derived.Test.Qxb6500374aWk
import Derived.Deep.AppendLies
import Derived.Deep.RegionHeld3
import Derived.Deep.Cut
import Derived.Deep.RegionLaw
set_option linter.unusedVariables false
set_option linter.unusedSimpArgs false
namespace Go.Proofs.Qxb6500374a.W
open Go.RowKit Go.Maps

theorem info3 : (Try.prog.info? 3).map (fun i => (i.zero, i.size, i.bytes)) = some (some (.int .i64 0), 1, 8) := by kernel_rfl

def ownB : Option Addr → List Nat
  | none => []
  | some a => [a.block]

def SlAt (w : World) (lp : Option Addr) (l : List Nat) (cap : Nat) : Prop := (l = [] ∧ lp = none ∧ cap = 0) ∨ ∃ b, lp = some ⟨b, 0, none⟩ ∧ RowAt w b l cap

theorem SlAt.own {w : World} {lp : Option Addr} {l : List Nat} {cap : Nat} (h : SlAt w lp l cap) : w.ownsRow 0 3 1 (.slice lp l.length cap) l.length (l.map iv) := by
  rcases h with ⟨rfl, rfl, rfl⟩ | ⟨b, rfl, cur, h1, h2, h3, h4, h5⟩
  · exact ⟨by simp, Or.inl ⟨rfl, rfl⟩⟩
  · exact ⟨by simp, Or.inr ⟨b, cap, cur, rfl, Nat.zero_le _, h1, h2, h3, by omega, by rw [Nat.mul_one]; exact h5⟩⟩

theorem own_row {w : World} {b : Nat} {l : List Nat} {cap : Nat} (h : w.ownsRow 0 3 1 (.slice (some ⟨b, 0, none⟩) l.length cap) l.length (l.map iv)) : RowAt w b l cap := by
  rcases h.2 with ⟨e, _⟩ | ⟨g', cap', cur, e, _, h1, h2, h3, h4, h5⟩
  · cases e
  · cases e
    exact ⟨cur, h1, h2, h3, by omega, by rw [Nat.mul_one] at h5; exact h5⟩

theorem append_row {w : World} {lp : Option Addr} {l news : List Nat} {cap Bk o c : Nat} (h : SlAt w lp l cap) (hn : 0 < news.length) (hs : l.length + news.length ≤ 100) (hB : ∀ j, (hj : j < news.length) → w.cell? ⟨Bk, o + j, none⟩ = some (.int .i64 (news[j] : Nat))) :
    ∃ pl cap' w', (∀ ty, (Builtin.append_ #[44, 44] ty #[.slice lp l.length cap, .slice (some ⟨Bk, o, none⟩) news.length c]).run Try.prog w = .ok (.slice (some ⟨pl, 0, none⟩) (l.length + news.length) cap') w') ∧ RowAt w' pl (l ++ news) cap' ∧ Chg (ownB lp) w w' ∧ (pl ∈ ownB lp ∨ w.heap.size ≤ pl) := by
  obtain ⟨i, hi, hz0, hz1, hz2⟩ := info_parts info3
  have hml : 1000 ≤ maxLen := by decide
  obtain ⟨pl, cap', w', hr, h2, h3, h4, h5⟩ := run_append_lies (P := Try.prog) w 44 0 0 3 i _ 1 8 Try.underlying44 hi hz0 hz1 hz2 rfl (by omega) (.slice lp l.length cap) l.length (l.map iv) h.own ⟨Bk, o, none⟩ news.length c (news.map iv) (by simp)
    (by
      intro j u hu
      have : (⟨Bk, o, none⟩ : Addr).add j = ⟨Bk, o + j, none⟩ := by unfold Addr.add; split <;> simp_all
      rw [this]
      have hj : j < news.length := by
        have := (List.getElem?_eq_some_iff.1 hu).1
        simpa using this
      rw [hB j hj, ← hu, List.getElem?_map, List.getElem?_eq_getElem hj]
      rfl)
    (by intro u hu; obtain ⟨x, _, rfl⟩ := List.mem_map.1 hu; rfl) hn (by omega) (by omega) (by omega) _ rfl
  refine ⟨pl, cap', w', fun ty => hr, own_row (by rw [List.length_append, List.map_append]; exact h2), ?_⟩
  have hc := Chg.grown h3
  rcases h with ⟨rfl, rfl, rfl⟩ | ⟨b, rfl, _⟩
  · refine ⟨hc.mono (by simp [Value.ownBlock]), Or.inr ?_⟩
    rcases h4 with h4 | h4
    · simp [Value.ownBlock] at h4
    · omega
  · refine ⟨hc.mono (by simp [Value.ownBlock, ownB]), ?_⟩
    rcases h4 with h4 | h4
    · simp [Value.ownBlock] at h4
      exact Or.inl (by simp [ownB, h4])
    · exact Or.inr (by omega)

theorem run_makeMap39 (w : World) : (Instr.makeMap 39 none).run Try.prog w = .ok (.map (some w.heap.size)) (w.alloc (.map #[] 0)) := run_makeMap 39 w

def sNew : WS := ⟨fun _ => [], fun _ => 0, 0, 0⟩
theorem sNew_ok : sNew.ok := ⟨⟨fun _ _ => rfl, fun _ => by simp [sNew], fun _ => by simp [sNew], fun _ x hx => by simp [sNew] at hx⟩, by simp [sNew, nums, one1]⟩

def NewP (w : World) (x : Ending) (w' : World) : Prop := ∃ px pa ph B C, x = .returned (pt px) ∧ WAt w' px pa ph B C sNew ∧ Chg [] w w' ∧ ∀ x ∈ wb px pa ph sNew.A B, w.heap.size ≤ x

set_option maxRecDepth 4000 in
theorem new_calls (w : World) : Calls Try.prog 21 #[] w (NewP w) := by
  have m1 := run_makeMap (P := Try.prog) 39 w
  have m2 := run_makeMap (P := Try.prog) 40 (w.alloc (.map #[] 0))
  have HF : Hid (WAt (((w.alloc (.map #[] 0)).alloc (.map #[] 0)).alloc (.cells (workCells w.heap.size (w.heap.size + 1) 0 false) 42)) (w.heap.size + 1 + 1) w.heap.size (w.heap.size + 1) (fun _ => 0) (fun _ => 0) sNew) := by
    have hab : adjB sNew.A (fun _ => 0) = [] := by simp [adjB, sNew]
    refine ⟨?_, ⟨⟨#[], 0, ?_, ⟨by simp, by simp, by simp, by simp⟩, by simp, fun k hk => absurd rfl hk⟩, fun k hk => absurd rfl hk, fun k hk => absurd rfl hk, fun j k hk => absurd rfl hk⟩, ⟨#[], 0, ?_, ⟨by simp, ?_, rfl, fun j _ => Int.le_refl _, by simp, by simp⟩⟩, ?_, ?_⟩
    · have := heap_alloc_new ((w.alloc (.map #[] 0)).alloc (.map #[] 0)) (.cells (workCells w.heap.size (w.heap.size + 1) 0 false) 42)
      have e : ((w.alloc (.map #[] 0)).alloc (.map #[] 0)).heap.size = w.heap.size + 1 + 1 := by simp
      rw [e] at this
      exact this
    · exact Chg.keep (bs := []) (((Chg.refl _ _).alloc _).alloc _) (heap_alloc_new w _) (by simp)
    · have := heap_alloc_new (w.alloc (.map #[] 0)) (.map #[] 0)
      exact Chg.keep (bs := []) ((Chg.refl _ _).alloc _) (by simpa using this) (by simp)
    · intro j _
      simp [sNew]
    · rw [hab]; simp; omega
    · rw [hab]; simp
  go_enter Try.func21, Try.ntmps21
  go_wp2
  go_ret
  refine ⟨_, _, _, _, _, rfl, HF.out, (((Chg.refl _ _).alloc _).alloc _).alloc _, ?_⟩
  intro x hx
  simp [wb, adjB, sNew] at hx
  omega
end Go.Proofs.Qxb6500374a.W

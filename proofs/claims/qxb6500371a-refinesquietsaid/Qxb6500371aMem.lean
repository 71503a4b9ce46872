import Derived.Test.Qxb6500371aItoa
import Derived.Maps.OwnSet
import Derived.Maps.RangeWalk
import Derived.KernelRfl
set_option linter.unusedVariables false
set_option linter.unusedSimpArgs false
namespace Go.Proofs.Qxb6500371a.W
open Go.RowKit Go.Maps

/-- The table, plainly. -/
structure MS where
  has : Nat → Bool
  val : Nat → Int

def inB (x : Int) : Bool := decide (0 ≤ x) && decide (x < 4)
def MS.hasI (m : MS) (x : Int) : Bool := inB x && m.has x.toNat
def b1 (b : Bool) : Nat := if b then 1 else 0
def MS.cnt (m : MS) : Nat := b1 (m.has 0) + b1 (m.has 1) + b1 (m.has 2) + b1 (m.has 3)
def MS.setHas (m : MS) (k : Nat) (b : Bool) : MS := { m with has := fun i => if i = k then b else m.has i }
def MS.setVal (m : MS) (k : Nat) (v : Int) : MS := { m with val := fun i => if i = k then v else m.val i }

/-- The block of the set of keys. -/
def HasAt (w : World) (mp : Nat) (m : MS) : Prop :=
  ∃ D : DataW Unit, w.ownsMap Try.prog 3 (plainElem Try.prog 4) mp 4 D ∧ (∀ x : Int, D.atKey (.int .i64 x) (.lit (.bool false)) = .lit (.bool (m.hasI x))) ∧ (∀ x : Int, Maps.has D (.int .i64 x) = m.hasI x) ∧ Maps.size D = m.cnt

def memCells (mp : Nat) (m : MS) : Array Value := #[.int .i64 (m.val 0), .int .i64 (m.val 1), .int .i64 (m.val 2), .int .i64 (m.val 3), .map (some mp), .int .i64 m.cnt]

def MemAt (w : World) (pm mp : Nat) (m : MS) : Prop := w.heap[pm]? = some (.cells (memCells mp m) 48 (0, 0)) ∧ HasAt w mp m

theorem law3 : Keyed Try.prog 3 := int_keyed Try.underlying3
theorem zero4 (w : World) : (zeroValue 4).run Try.prog w = .ok (.bool false) w := by kernel_rfl

theorem plainElem_bool_inv {P : Program} {e : TypeId} (he : P.underlying e = some .bool) {v : Value} {z : DataW Unit × List MemPlace} (h : plainElem P e v = some z) : ∃ b, v = .bool b ∧ z = (.lit (.bool b), []) := by
  unfold plainElem at h
  rw [he] at h
  cases v <;> simp at h
  rename_i b
  exact ⟨b, rfl, h.symm⟩

def i64ok (x : Int) : Prop := -9223372036854775808 ≤ x ∧ x ≤ 9223372036854775807

theorem key_of {x : Int} (hx : i64ok x) : keyOf Try.prog 3 (.int .i64 x) = some (.int .i64 x) :=
  keyOf_int_mk Try.underlying3 (by obtain ⟨h1, h2⟩ := hx; simp [Lit.wf, IntKind.min, IntKind.max, IntKind.bits, IntKind.signed]; omega)

theorem HasAt.look {w : World} {mp : Nat} {m : MS} (h : HasAt w mp m) {x : Int} (hx : i64ok x) :
    (Instr.lookup 46 (.map (some mp)) (.int .i64 x) false).run Try.prog w = .ok (.bool (m.hasI x)) w := by
  obtain ⟨D, ho, ha, hh, hs⟩ := h
  obtain ⟨v, ps, hrun, hv⟩ := ho.lookup law3 Try.underlying46 (zero4 w) (plainElem_bool Try.underlying4 false) (key_of hx)
  obtain ⟨b, rfl, hb⟩ := plainElem_bool_inv Try.underlying4 hv
  rw [ha] at hb
  simp only [Prod.mk.injEq, DataW.lit.injEq, Lit.bool.injEq] at hb
  rw [hrun, hb.1]

theorem Chg.turned {w w' : World} {b : Nat} (h : w.mapTurned w' b) : Chg [b] w w' :=
  have g := h.grown
  ⟨g.os, g.tape, g.output, g.size, fun k hk hn => g.block k hk (by intro e; cases e; simp at hn)⟩

theorem HasAt.chg {w w' : World} {bs : List Nat} {mp : Nat} {m : MS} (h : HasAt w mp m) (hc : Chg bs w w') (hn : mp ∉ bs) : HasAt w' mp m := by
  obtain ⟨D, ⟨es, clock, hb, hf, hs, hD⟩, r⟩ := h
  exact ⟨D, ⟨es, clock, hc.keep hb hn, hf, hs, hD⟩, r⟩

theorem HasAt.lt {w : World} {mp : Nat} {m : MS} (h : HasAt w mp m) : mp < w.heap.size := by
  obtain ⟨D, ho, _⟩ := h
  exact ho.lt

theorem tight {w : World} {P : Program} {k : TypeId} {R : Value → Option (DataW Unit × List MemPlace)} {b n : Nat} {D : DataW Unit} (h : w.ownsMap P k R b n D) {n' : Nat} (hn : Maps.size D ≤ n') : w.ownsMap P k R b n' D := by
  obtain ⟨es, clock, hb, hf, hs, rfl⟩ := h
  refine ⟨es, clock, hb, hf, ?_, rfl⟩
  simpa [Maps.size, length_sorted] using hn

theorem cnt_le (m : MS) : m.cnt ≤ 4 := by
  simp only [MS.cnt, b1]
  cases m.has 0 <;> cases m.has 1 <;> cases m.has 2 <;> cases m.has 3 <;> simp

theorem cnt_add (m : MS) (k : Nat) (hk : k < 4) (h : m.has k = false) : (m.setHas k true).cnt = m.cnt + 1 := by
  rcases (by omega : k = 0 ∨ k = 1 ∨ k = 2 ∨ k = 3) with rfl | rfl | rfl | rfl <;> simp [MS.cnt, MS.setHas, b1, h] <;> omega

theorem cnt_sub (m : MS) (k : Nat) (hk : k < 4) (h : m.has k = true) : (m.setHas k false).cnt + 1 = m.cnt := by
  rcases (by omega : k = 0 ∨ k = 1 ∨ k = 2 ∨ k = 3) with rfl | rfl | rfl | rfl <;> simp [MS.cnt, MS.setHas, b1, h] <;> omega

theorem hasI_set (m : MS) (k : Nat) (hk : k < 4) (b : Bool) (x : Int) : (m.setHas k b).hasI x = if x = k then b else m.hasI x := by
  unfold MS.hasI MS.setHas
  by_cases hx : x = k
  · subst hx
    simp [inB]
    omega
  · simp only [if_neg hx]
    by_cases hi : inB x = true
    · have : x.toNat ≠ k := by
        simp [inB] at hi
        omega
      simp [this]
    · simp [hi]

theorem HasAt.put {w : World} {mp : Nat} {m : MS} (h : HasAt w mp m) (k : Nat) (hk : k < 4) (hf : m.has k = false) :
    ∃ w', (Instr.mapUpdate 46 (.map (some mp)) (.int .i64 (k : Int)) (.bool true)).run Try.prog w = .ok () w' ∧ HasAt w' mp (m.setHas k true) ∧ Chg [mp] w w' := by
  obtain ⟨D, ho, ha, hh, hs⟩ := h
  have hkey : keyOf Try.prog 3 (.int .i64 (k : Int)) = some (.int .i64 k) := key_of ⟨by omega, by omega⟩
  obtain ⟨w', hrun, ho', ht⟩ := ho.store law3 Try.underlying46 (by decide) hkey (plainElem_bool Try.underlying4 true)
  have hnot : Maps.has D (.int .i64 (k : Int)) = false := by
    rw [hh]
    simp [MS.hasI, hf]
  have hsz : Maps.size (D.put (.int .i64 (k : Int)) (.lit (.bool true))) = (m.setHas k true).cnt := by
    rw [size_put (ho.tidy law3), hnot, cnt_add m k hk hf, hs]
    simp
  refine ⟨w', hrun, ⟨_, tight ho' (by rw [hsz]; exact cnt_le _), ?_, ?_, hsz⟩, Chg.turned ht⟩
  · intro x
    by_cases hx : x = k
    · subst hx
      rw [atKey_put_same ho.isMap (by trivial), hasI_set m k hk]
      simp
    · rw [atKey_put_other (by intro e; cases e; exact hx rfl), ha, hasI_set m k hk, if_neg hx]
  · intro x
    by_cases hx : x = k
    · subst hx
      rw [has_put_same ho.isMap (by trivial), hasI_set m k hk]
      simp
    · rw [has_put_other (by intro e; cases e; exact hx rfl), hh, hasI_set m k hk, if_neg hx]

theorem HasAt.del {w : World} {mp : Nat} {m : MS} (h : HasAt w mp m) (k : Nat) (hk : k < 4) (hf : m.has k = true) (ty : TypeId) :
    ∃ w', (Builtin.delete_ #[46, 3] ty #[.map (some mp), .int .i64 (k : Int)]).run Try.prog w = .ok (.tuple #[]) w' ∧ HasAt w' mp (m.setHas k false) ∧ Chg [mp] w w' := by
  obtain ⟨D, ho, ha, hh, hs⟩ := h
  have hkey : keyOf Try.prog 3 (.int .i64 (k : Int)) = some (.int .i64 k) := key_of ⟨by omega, by omega⟩
  obtain ⟨w', hrun, ho', ht⟩ := ho.drop law3 Try.underlying46 hkey ty
  have hyes : Maps.has D (.int .i64 (k : Int)) = true := by
    rw [hh]
    simp [MS.hasI, hf, inB]
    omega
  have hsz : Maps.size (D.del (.int .i64 (k : Int))) = (m.setHas k false).cnt := by
    have h1 := size_del (k := .int .i64 (k : Int)) (ho.tidy law3)
    rw [hyes, hs] at h1
    have h2 := cnt_sub m k hk hf
    simp at h1
    omega
  refine ⟨w', hrun, ⟨_, ho', ?_, ?_, hsz⟩, Chg.turned ht⟩
  · intro x
    by_cases hx : x = k
    · subst hx
      rw [atKey_del_same, hasI_set m k hk]
      simp
    · rw [atKey_del_other (by intro e; cases e; exact hx rfl), ha, hasI_set m k hk, if_neg hx]
  · intro x
    by_cases hx : x = k
    · subst hx
      rw [has_del_same, hasI_set m k hk]
      simp
    · rw [has_del_other (by intro e; cases e; exact hx rfl), hh, hasI_set m k hk, if_neg hx]

theorem HasAt.len {w : World} {mp : Nat} {m : MS} (h : HasAt w mp m) (ty : TypeId) : (Builtin.len_ #[46] ty #[.map (some mp)]).run Try.prog w = .ok (.int .i64 m.cnt) w := by
  obtain ⟨D, ho, _, _, hs⟩ := h
  rw [ho.len Try.underlying46 ty, hs]

theorem memCells_get (mp : Nat) (m : MS) (k : Nat) (hk : k < 4) : (memCells mp m)[k]? = some (.int .i64 (m.val k)) := by
  rcases (by omega : k = 0 ∨ k = 1 ∨ k = 2 ∨ k = 3) with rfl | rfl | rfl | rfl <;> rfl

end Go.Proofs.Qxb6500371a.W

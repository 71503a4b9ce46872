import Derived.Test.Qxb6500374aBs
set_option linter.unusedVariables false
set_option linter.unusedSimpArgs false
namespace Go.Proofs.Qxb6500374a.W
open Go.RowKit Go.Maps

def keys (es : Array MapEntry) : List Nat := es.toList.map kn

/-- The entries of a set of nodes. -/
structure SetOk (es : Array MapEntry) (clock : Nat) : Prop where
  ent : Ent es clock
  val : ∀ e ∈ es.toList, e.val = .bool true

/-- Entries have been laid in, none struck. -/
structure Grow (es : Array MapEntry) (c : Nat) (es' : Array MapEntry) (c' : Nat) : Prop where
  le : c ≤ c'
  ex : ∃ more, es'.toList = es.toList ++ more ∧ ∀ e ∈ more, c ≤ e.born

theorem Grow.refl (es : Array MapEntry) (c : Nat) : Grow es c es c := ⟨Nat.le_refl _, [], by simp, by simp⟩
theorem Grow.trans {a b d : Array MapEntry} {ca cb cd : Nat} (h : Grow a ca b cb) (k : Grow b cb d cd) : Grow a ca d cd := by
  obtain ⟨m1, e1, f1⟩ := h.ex
  obtain ⟨m2, e2, f2⟩ := k.ex
  refine ⟨Nat.le_trans h.le k.le, m1 ++ m2, by rw [e2, e1, List.append_assoc], fun e he => ?_⟩
  rcases List.mem_append.1 he with he | he
  · exact f1 e he
  · exact Nat.le_trans h.le (f2 e he)
theorem Grow.mem {a b : Array MapEntry} {ca cb : Nat} (h : Grow a ca b cb) {e : MapEntry} (he : e ∈ a.toList) : e ∈ b.toList := by
  obtain ⟨m, e1, _⟩ := h.ex
  rw [e1]; simp [he]
theorem Grow.old {a b : Array MapEntry} {ca cb : Nat} (h : Grow a ca b cb) {e : MapEntry} (he : e ∈ b.toList) (hb : e.born < ca) : e ∈ a.toList := by
  obtain ⟨m, e1, f⟩ := h.ex
  rw [e1] at he
  rcases List.mem_append.1 he with he | he
  · exact he
  · have := f e he; omega
theorem Grow.size {a b : Array MapEntry} {ca cb : Nat} (h : Grow a ca b cb) : a.size ≤ b.size := by
  obtain ⟨m, e1, _⟩ := h.ex
  have := congrArg List.length e1
  simp at this
  omega
theorem Grow.eq {a b : Array MapEntry} {ca cb : Nat} (h : Grow a ca b cb) (hs : b.size = a.size) : b = a := by
  obtain ⟨m, e1, _⟩ := h.ex
  have := congrArg List.length e1
  simp at this
  have hm : m = [] := List.length_eq_zero_iff.1 (by omega)
  rw [hm, List.append_nil] at e1
  exact Array.ext' e1
theorem Grow.keys {a b : Array MapEntry} {ca cb : Nat} (h : Grow a ca b cb) {k : Nat} (hk : k ∈ keys a) : k ∈ keys b := by
  unfold W.keys at hk ⊢
  obtain ⟨e, he, rfl⟩ := List.mem_map.1 hk
  exact List.mem_map_of_mem (h.mem he)

theorem SetOk.lt {es : Array MapEntry} {c : Nat} (h : SetOk es c) {k : Nat} (hk : k ∈ keys es) : k < 8 := by
  obtain ⟨e, he, rfl⟩ := List.mem_map.1 hk
  exact (h.ent.key e he).2

theorem nodup_sub_length : ∀ {l m : List Nat}, l.Nodup → (∀ x ∈ l, x ∈ m) → l.length ≤ m.length
  | [], m, _, _ => by simp
  | a :: r, m, h, hs => by
    rw [List.nodup_cons] at h
    have ha := hs a (by simp)
    have ih := nodup_sub_length (l := r) (m := m.erase a) h.2 (fun x hx => (List.mem_erase_of_ne (fun e => h.1 (by rw [← e]; exact hx))).2 (hs x (by simp [hx])))
    have := List.length_erase_of_mem ha
    have : 0 < m.length := List.length_pos_of_mem ha
    simp
    omega
theorem nodup_lt_length {l : List Nat} (h : l.Nodup) {n : Nat} (hl : ∀ x ∈ l, x < n) : l.length ≤ n := by
  have hs : l ⊆ List.range n := fun x hx => List.mem_range.2 (hl x hx)
  have := nodup_sub_length h hs
  simpa using this

theorem SetOk.size {es : Array MapEntry} {c : Nat} (h : SetOk es c) : es.size ≤ 8 := by
  have := nodup_lt_length h.ent.one (fun x hx => h.lt hx)
  simpa [keys] using this

theorem run_setput {w : World} {b : Nat} {es : Array MapEntry} {clock : Nat} (hb : w.heap[b]? = some (.map es clock)) (h : SetOk es clock) (k : Nat) (hk : k < 8) :
    ∃ w' es' clock', (Instr.mapUpdate 46 (.map (some b)) (.int .i64 k) (.bool true)).run Try.prog w = .ok () w' ∧ w'.heap[b]? = some (.map es' clock') ∧ Chg [b] w w' ∧ w'.heap.size = w.heap.size ∧ SetOk es' clock' ∧ Grow es clock es' clock' ∧
      ∀ x, x ∈ keys es' ↔ (x ∈ keys es ∨ x = k) := by
  obtain ⟨w', es', clock', hr, hb', hc, hsz, hcase⟩ := run_put hb h.ent Try.underlying46 k hk (.bool true)
  refine ⟨w', es', clock', hr, hb', hc, hsz, ?_⟩
  rcases hcase with ⟨⟨j, e, h1, h2, h3⟩, rfl⟩ | ⟨h1, rfl, rfl⟩
  · have hv := h.val e (List.mem_of_getElem? h1)
    have : ({ e with val := .bool true } : MapEntry) = e := by rw [← hv]
    have he : es' = es := by
      apply Array.ext'
      rw [h3, this]
      apply List.ext_getElem?
      intro i
      rw [List.getElem?_set]
      split
      · rename_i hij
        subst hij
        rw [if_pos (List.getElem?_eq_some_iff.1 h1).1, h1]
      · rfl
    subst he
    refine ⟨h, Grow.refl _ _, fun x => ⟨Or.inl, fun hx => ?_⟩⟩
    rcases hx with hx | rfl
    · exact hx
    · rw [← h2]; exact List.mem_map_of_mem (List.mem_of_getElem? h1)
  · have hkn : kn ⟨.int .i64 k, .bool true, clock⟩ = k := by simp [kn]
    refine ⟨⟨⟨?_, ?_, ?_, ?_⟩, ?_⟩, ⟨by omega, [⟨.int .i64 k, .bool true, clock⟩], by simp, by simp⟩, fun x => ?_⟩
    · intro e he
      simp at he
      rcases he with he | rfl
      · exact h.ent.key e (by simpa using he)
      · rw [hkn]; exact ⟨rfl, hk⟩
    · rw [Array.toList_push, List.map_append, List.nodup_append]
      refine ⟨h.ent.one, by simp, ?_⟩
      intro a ha b' hb'
      simp [hkn] at hb'
      subst hb'
      obtain ⟨e, he, rfl⟩ := List.mem_map.1 ha
      exact h1 e he
    · intro e he
      simp at he
      rcases he with he | rfl
      · have := h.ent.born e (by simpa using he); omega
      · show clock < clock + 1; omega
    · rw [Array.toList_push, List.map_append, List.nodup_append]
      refine ⟨h.ent.stamp, by simp, ?_⟩
      intro a ha b' hb'
      simp at hb'
      subst hb'
      obtain ⟨e, he, rfl⟩ := List.mem_map.1 ha
      have := h.ent.born e he
      omega
    · intro e he
      simp at he
      rcases he with he | rfl
      · exact h.val e (by simpa using he)
      · rfl
    · unfold keys
      rw [Array.toList_push, List.map_append, List.mem_append]
      simp [hkn]

/-! Reach, plainly -/
inductive Rch (A : Nat → List Nat) (s : Nat) : Nat → Prop
  | base : Rch A s s
  | step {k m : Nat} : Rch A s k → m ∈ A k → Rch A s m

def Ball (A : Nat → List Nat) (s : Nat) : Nat → Nat → Prop
  | 0, k => k = s
  | i + 1, k => Ball A s i k ∨ ∃ j, Ball A s i j ∧ k ∈ A j

theorem Ball.rch {A : Nat → List Nat} {s : Nat} : ∀ {i k : Nat}, Ball A s i k → Rch A s k
  | 0, k, h => by rw [h]; exact .base
  | i + 1, k, h => by
    rcases h with h | ⟨j, hj, hk⟩
    · exact Ball.rch h
    · exact .step (Ball.rch hj) hk
theorem Ball.mono {A : Nat → List Nat} {s i : Nat} : ∀ {j : Nat}, i ≤ j → ∀ {k : Nat}, Ball A s i k → Ball A s j k
  | 0, h, k, hb => by obtain rfl : i = 0 := by omega
                      exact hb
  | j + 1, h, k, hb => by
    by_cases e : i = j + 1
    · subst e; exact hb
    · exact Or.inl (Ball.mono (by omega) hb)

/-- The graph's lists: nodes. -/
structure AOk (A : Nat → List Nat) : Prop where
  out : ∀ k, 8 ≤ k → A k = []
  len : ∀ k, (A k).length ≤ 3
  one : ∀ k, (A k).Nodup
  lt : ∀ k, ∀ x ∈ A k, x < 8

theorem Rch.lt {A : Nat → List Nat} (h : AOk A) {s : Nat} (hs : s < 8) {k : Nat} (hr : Rch A s k) : k < 8 := by
  cases hr with
  | base => exact hs
  | step _ hm => exact h.lt _ _ hm

def iv (x : Nat) : Value := .int .i64 x

/-- A list of nodes, as it lies. -/
def RowAt (w : World) (b : Nat) (l : List Nat) (cap : Nat) : Prop :=
  ∃ cur, w.heap[b]? = some (.cells cur 3 (0, 0)) ∧ l.length ≤ cap ∧ cap ≤ maxLen ∧ cur.size = cap ∧ cur.toList.take l.length = l.map iv

theorem RowAt.chg {w w' : World} {bs : List Nat} {b cap : Nat} {l : List Nat} (h : RowAt w b l cap) (hc : Chg bs w w') (hn : b ∉ bs) : RowAt w' b l cap := by
  obtain ⟨cur, h1, h2⟩ := h
  exact ⟨cur, hc.keep h1 hn, h2⟩
theorem RowAt.cell {w : World} {b cap : Nat} {l : List Nat} (h : RowAt w b l cap) {i : Nat} (hi : i < l.length) : w.cell? ⟨b, i, none⟩ = some (.int .i64 (l[i] : Nat)) := by
  obtain ⟨cur, h1, h2, h3, h4, h5⟩ := h
  refine cell_of h1 ?_
  have := congrArg (·[i]?) h5
  simp only [List.getElem?_take_of_lt hi, List.getElem?_map, List.getElem?_eq_getElem hi, Option.map_some] at this
  rw [← Array.getElem?_toList, this]
  rfl
theorem RowAt.lt {w : World} {b cap : Nat} {l : List Nat} (h : RowAt w b l cap) : b < w.heap.size := by
  obtain ⟨cur, h1, _⟩ := h
  exact lt_of h1

def adjV (A : Nat → List Nat) (B C : Nat → Nat) (k : Nat) : Value := .slice (some ⟨B k, 0, none⟩) (A k).length (C k)

/-- The graph, as it lies. -/
structure AdjAt (w : World) (pa : Nat) (A : Nat → List Nat) (B C : Nat → Nat) : Prop where
  map : ∃ es clock, w.heap[pa]? = some (.map es clock) ∧ Ent es clock ∧ (∀ e ∈ es.toList, A (kn e) ≠ [] ∧ e.val = adjV A B C (kn e)) ∧ ∀ k, A k ≠ [] → k ∈ keys es
  row : ∀ k, A k ≠ [] → RowAt w (B k) (A k) (C k)
  apart : ∀ k, A k ≠ [] → B k ≠ pa
  inj : ∀ j k, A j ≠ [] → A k ≠ [] → B j = B k → j = k

/-- The blocks of the graph's lists. -/
def adjB (A : Nat → List Nat) (B : Nat → Nat) : List Nat := ((List.range 8).filter fun k => !(A k).isEmpty).map B

theorem mem_adjB {A : Nat → List Nat} {B : Nat → Nat} (h : AOk A) {x : Nat} : x ∈ adjB A B ↔ ∃ k, A k ≠ [] ∧ B k = x := by
  unfold adjB
  rw [List.mem_map]
  constructor
  · rintro ⟨k, hk, rfl⟩
    simp at hk
    exact ⟨k, hk.2, rfl⟩
  · rintro ⟨k, hk, rfl⟩
    refine ⟨k, ?_, rfl⟩
    have : k < 8 := by
      rcases Nat.lt_or_ge k 8 with h8 | h8
      · exact h8
      · exact absurd (h.out k h8) hk
    simp [this, hk]

theorem AdjAt.chg {w w' : World} {bs : List Nat} {pa : Nat} {A : Nat → List Nat} {B C : Nat → Nat} (h : AdjAt w pa A B C) (hA : AOk A) (hc : Chg bs w w') (hn : ∀ x ∈ pa :: adjB A B, x ∉ bs) : AdjAt w' pa A B C := by
  obtain ⟨es, c, h1, h2⟩ := h.map
  exact ⟨⟨es, c, hc.keep h1 (hn pa (by simp)), h2⟩, fun k hk => (h.row k hk).chg hc (hn _ (List.mem_cons_of_mem _ ((mem_adjB hA).2 ⟨k, hk, rfl⟩))), h.apart, h.inj⟩

theorem zero44 (w : World) : (zeroValue 44).run Try.prog w = .ok (.slice none 0 0) w := by kernel_rfl

def lookV (A : Nat → List Nat) (B C : Nat → Nat) (k : Nat) : Value := if A k = [] then .slice none 0 0 else adjV A B C k

theorem AdjAt.look {w : World} {pa : Nat} {A : Nat → List Nat} {B C : Nat → Nat} (h : AdjAt w pa A B C) (k : Nat) (hk : k < 8) : (Instr.lookup 39 (.map (some pa)) (.int .i64 k) false).run Try.prog w = .ok (lookV A B C k) w := by
  obtain ⟨es, c, h1, h2, h3, h4⟩ := h.map
  rcases run_look h1 h2 Try.underlying39 (zero44 w) k hk with ⟨hr, hno⟩ | ⟨e, he, rfl, hr⟩
  · rw [hr, lookV, if_pos]
    apply Classical.byContradiction
    intro hne
    obtain ⟨e, he, hke⟩ := List.mem_map.1 (h4 k hne)
    exact hno e he hke
  · rw [hr, lookV, if_neg (h3 e he).1, (h3 e he).2]

def workCells (pa ph : Nat) (r : Int) (odd : Bool) : Array Value := #[.map (some pa), .map (some ph), .int .i64 r, .bool odd]
end Go.Proofs.Qxb6500374a.W

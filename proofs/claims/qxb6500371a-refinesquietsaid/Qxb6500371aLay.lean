import Derived.Test.Qxb6500371aLim
set_option linter.unusedVariables false
set_option linter.unusedSimpArgs false
namespace Go.Proofs.Qxb6500371a.W
open Go.RowKit Go.Maps

/-- A Logged, plainly: the last event is (was it a Put?, the key). -/
structure LS where
  puts : Int
  dels : Int
  last : Option (Bool × Int)

inductive Layer where
  | cached (p : Nat) (c : CS)
  | limited (p : Nat) (c : CS)
  | logged (p : Nat) (l : LS)

def Layer.blk : Layer → Nat
  | .cached p _ => p
  | .limited p _ => p
  | .logged p _ => p

def evV : Option (Bool × Int) → Value
  | none => .nilIface
  | some (true, k) => .iface 123 (.int .i64 k)
  | some (false, k) => .iface 121 (.int .i64 k)

/-- The outermost store's interface value; the layers, the outermost first. -/
def topV (pm : Nat) : List Layer → Value
  | [] => .iface 45 (pt pm)
  | .cached p _ :: _ => .iface 86 (pt p)
  | .limited p _ :: _ => .iface 91 (pt p)
  | .logged p _ :: _ => .iface 53 (pt p)

def LogAt (w : World) (p : Nat) (v : Value) (l : LS) : Prop := w.heap[p]? = some (.cells #[v, .int .i64 l.puts, .int .i64 l.dels, evV l.last] 75 (0, 0))

def bl (pm mp : Nat) (ls : List Layer) : List Nat := ls.map Layer.blk ++ [pm, mp]

def StackAt (w : World) (pm mp : Nat) (m : MS) : List Layer → Prop
  | [] => MemAt w pm mp m
  | .cached p c :: r => r = [] ∧ p ≠ pm ∧ p ≠ mp ∧ CacAt w p pm c [] 90 ∧ MemAt w pm mp m
  | .limited p c :: r => r = [] ∧ p ≠ pm ∧ p ≠ mp ∧ CacAt w p pm c [.int .i64 2] 93 ∧ MemAt w pm mp m
  | .logged p l :: r => p ∉ bl pm mp r ∧ LogAt w p (topV pm r) l ∧ StackAt w pm mp m r

theorem LogAt.chg {w w' : World} {bs : List Nat} {p : Nat} {v : Value} {l : LS} (h : LogAt w p v l) (hc : Chg bs w w') (hn : p ∉ bs) : LogAt w' p v l := hc.keep h hn

theorem StackAt.chg {w w' : World} {bs : List Nat} {pm mp : Nat} {m : MS} (hc : Chg bs w w') : ∀ {ls : List Layer}, StackAt w pm mp m ls → (∀ x ∈ bl pm mp ls, x ∉ bs) → StackAt w' pm mp m ls
  | [], h, hn => MemAt.chg h hc (hn _ (by simp [bl])) (hn _ (by simp [bl]))
  | .cached p c :: r, h, hn => by
    obtain ⟨rfl, h1, h2, h3, h4⟩ := h
    exact ⟨rfl, h1, h2, h3.chg hc (hn _ (by simp [bl, Layer.blk])), h4.chg hc (hn _ (by simp [bl])) (hn _ (by simp [bl]))⟩
  | .limited p c :: r, h, hn => by
    obtain ⟨rfl, h1, h2, h3, h4⟩ := h
    exact ⟨rfl, h1, h2, h3.chg hc (hn _ (by simp [bl, Layer.blk])), h4.chg hc (hn _ (by simp [bl])) (hn _ (by simp [bl]))⟩
  | .logged p l :: r, h, hn => by
    obtain ⟨h1, h2, h3⟩ := h
    exact ⟨h1, h2.chg hc (hn _ (by simp [bl, Layer.blk])), StackAt.chg hc h3 (fun x hx => hn x (by simp only [bl, List.map_cons, List.cons_append, List.mem_cons]; exact Or.inr hx))⟩
end Go.Proofs.Qxb6500371a.W

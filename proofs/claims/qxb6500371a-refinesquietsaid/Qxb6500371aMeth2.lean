import Derived.Test.Qxb6500371aPut
set_option linter.unusedVariables false
set_option linter.unusedSimpArgs false
namespace Go.Proofs.Qxb6500371a.W
open Go.RowKit Go.Maps

def stepM (n : Nat) (name : String) (v : Value) : Sem (FuncId × Value) :=
  match v with
  | .iface t' v' => method n t' v' name
  | .nilIface => runtimePanic .nilDeref
  | _ => stuck "method row: interface value expected"

theorem log_get0 (n p : Nat) (w : World) : (method (n + 1) 53 (pt p) "Get").run Try.prog w = (Sem.load .plain ⟨p, 0, none⟩ (fun v => stepM n "Get" v)).run Try.prog w := by
  kernel_rfl
theorem log_clear0 (n p : Nat) (w : World) : (method (n + 1) 53 (pt p) "Clear").run Try.prog w = (Sem.load .plain ⟨p, 0, none⟩ (fun v => stepM n "Clear" v)).run Try.prog w := by
  kernel_rfl
theorem log_name0 (n p : Nat) (w : World) : (method (n + 1) 53 (pt p) "Name").run Try.prog w = (Sem.load .plain ⟨p, 0, none⟩ (fun v => stepM n "Name" v)).run Try.prog w := by
  kernel_rfl

theorem stepM_load {w : World} {p n T : Nat} {tv : Value} {name : String} (h : w.cell? ⟨p, 0, none⟩ = some (.iface T tv)) : (Sem.load .plain ⟨p, 0, none⟩ (fun v => stepM n name v)).run Try.prog w = (method n T tv name).run Try.prog w := by
  rw [Sem.run, h]
  rfl

theorem get_mem (n p : Nat) (w : World) : (method (n + 1) 45 (pt p) "Get").run Try.prog w = .ok (86, pt p) w := by kernel_rfl
theorem get_cac (n p : Nat) (w : World) : (method (n + 1) 86 (pt p) "Get").run Try.prog w = .ok (123, pt p) w := by kernel_rfl
theorem get_lim (n p : Nat) (w : World) : (method (n + 1) 91 (pt p) "Get").run Try.prog w = .ok (123, pt p) w := by kernel_rfl
theorem clear_mem (n p : Nat) (w : World) : (method (n + 1) 45 (pt p) "Clear").run Try.prog w = .ok (110, pt p) w := by kernel_rfl
theorem clear_cac (n p : Nat) (w : World) : (method (n + 1) 86 (pt p) "Clear").run Try.prog w = .ok (121, pt p) w := by kernel_rfl
theorem clear_lim (n p : Nat) (w : World) : (method (n + 1) 91 (pt p) "Clear").run Try.prog w = .ok (121, pt p) w := by kernel_rfl
theorem name_mem (n p : Nat) (w : World) : (method (n + 1) 45 (pt p) "Name").run Try.prog w = .ok (113, pt p) w := by kernel_rfl
theorem name_cac (n p : Nat) (w : World) : (method (n + 1) 86 (pt p) "Name").run Try.prog w = .ok (125, pt p) w := by kernel_rfl
theorem name_lim (n p : Nat) (w : World) : (method (n + 1) 91 (pt p) "Name").run Try.prog w = .ok (125, pt p) w := by kernel_rfl

/-- The store that answers Get, Clear and Name. -/
def baseF (a b : Nat) : List Layer → Nat
  | [] => a
  | .cached _ _ :: _ => b
  | .limited _ _ :: _ => b
  | .logged _ _ :: r => baseF a b r

def baseV (pm : Nat) : List Layer → Value
  | [] => pt pm
  | .cached p _ :: _ => pt p
  | .limited p _ :: _ => pt p
  | .logged _ _ :: r => baseV pm r

theorem top_iface (pm : Nat) (ls : List Layer) : ∃ T v, topV pm ls = .iface T v := by
  cases ls with
  | nil => exact ⟨_, _, rfl⟩
  | cons x r => cases x <;> exact ⟨_, _, rfl⟩

theorem prom (name : String) (a b : Nat) (h1 : ∀ n p w, (method (n + 1) 45 (pt p) name).run Try.prog w = .ok (a, pt p) w) (h2 : ∀ n p w, (method (n + 1) 86 (pt p) name).run Try.prog w = .ok (b, pt p) w)
    (h3 : ∀ n p w, (method (n + 1) 91 (pt p) name).run Try.prog w = .ok (b, pt p) w) (h4 : ∀ n p w, (method (n + 1) 53 (pt p) name).run Try.prog w = (Sem.load .plain ⟨p, 0, none⟩ (fun v => stepM n name v)).run Try.prog w) {pm mp : Nat} {m : MS} {w : World} :
    ∀ (ls : List Layer) (n : Nat), StackAt w pm mp m ls → ls.length ≤ n → ∀ T v, topV pm ls = .iface T v → (method (n + 1) T v name).run Try.prog w = .ok (baseF a b ls, baseV pm ls) w
  | [], n, h, hn, T, v, hv => by
    cases hv
    exact h1 n pm w
  | .cached p c :: r, n, h, hn, T, v, hv => by
    cases hv
    exact h2 n p w
  | .limited p c :: r, n, h, hn, T, v, hv => by
    cases hv
    exact h3 n p w
  | .logged p l :: r, n, h, hn, T, v, hv => by
    cases hv
    obtain ⟨g1, g2, g3⟩ := h
    obtain ⟨T', v', ht⟩ := top_iface pm r
    have c0 : w.cell? ⟨p, 0, none⟩ = some (.iface T' v') := by rw [← ht]; exact cell_of g2 rfl
    rw [h4, stepM_load c0]
    simp only [List.length_cons] at hn
    obtain ⟨n', rfl⟩ : ∃ n', n = n' + 1 := ⟨n - 1, by omega⟩
    exact prom name a b h1 h2 h3 h4 r n' g3 (by omega) T' v' ht

/-- Where the outermost store's Get, Clear, Name lie. -/
theorem get_meth {w : World} {pm mp : Nat} {m : MS} {ls : List Layer} (h : StackAt w pm mp m ls) (hn : ls.length ≤ 4) {T : Nat} {v : Value} (ht : topV pm ls = .iface T v) : (method 228 T v "Get").run Try.prog w = .ok (baseF 86 123 ls, baseV pm ls) w :=
  prom "Get" 86 123 get_mem get_cac get_lim log_get0 ls 227 h (by omega) T v ht
theorem clear_meth {w : World} {pm mp : Nat} {m : MS} {ls : List Layer} (h : StackAt w pm mp m ls) (hn : ls.length ≤ 4) {T : Nat} {v : Value} (ht : topV pm ls = .iface T v) : (method 228 T v "Clear").run Try.prog w = .ok (baseF 110 121 ls, baseV pm ls) w :=
  prom "Clear" 110 121 clear_mem clear_cac clear_lim log_clear0 ls 227 h (by omega) T v ht
theorem name_meth {w : World} {pm mp : Nat} {m : MS} {ls : List Layer} (h : StackAt w pm mp m ls) (hn : ls.length ≤ 4) {T : Nat} {v : Value} (ht : topV pm ls = .iface T v) : (method 228 T v "Name").run Try.prog w = .ok (baseF 113 125 ls, baseV pm ls) w :=
  prom "Name" 113 125 name_mem name_cac name_lim log_name0 ls 227 h (by omega) T v ht

theorem callFb (f : Nat) (h : f ∈ [86, 123, 110, 121, 113, 125]) (args : Array Value) (w : World) : (callFunc f args).run Try.prog w = .ok (.enter f args) w := by
  simp only [List.mem_cons, List.not_mem_nil, or_false] at h
  rcases h with rfl | rfl | rfl | rfl | rfl | rfl <;> kernel_rfl

theorem baseF_in (a b : Nat) : ∀ ls, baseF a b ls = a ∨ baseF a b ls = b
  | [] => Or.inl rfl
  | .cached _ _ :: _ => Or.inr rfl
  | .limited _ _ :: _ => Or.inr rfl
  | .logged _ _ :: r => baseF_in a b r

/-- Get, plainly: value, error, the layers behind it. -/
def getL : List Layer → MS → Int → Int × Int × List Layer
  | [], m, k => ((rowR m k).2.1, (rowR m k).2.2, [])
  | .cached p c :: r, m, k => ((getC c m k).1, (getC c m k).2.1, .cached p (getC c m k).2.2 :: r)
  | .limited p c :: r, m, k => ((getC c m k).1, (getC c m k).2.1, .limited p (getC c m k).2.2 :: r)
  | .logged p l :: r, m, k => ((getL r m k).1, (getL r m k).2.1, .logged p l :: (getL r m k).2.2)

theorem getL_top (pm : Nat) (ls : List Layer) (m : MS) (k : Int) : topV pm (getL ls m k).2.2 = topV pm ls := by
  cases ls with
  | nil => rfl
  | cons x r => cases x <;> rfl

theorem getL_bl (pm mp : Nat) (ls : List Layer) (m : MS) (k : Int) : bl pm mp (getL ls m k).2.2 = bl pm mp ls := by
  induction ls with
  | nil => rfl
  | cons x r ih =>
    cases x with
    | cached p c => rfl
    | limited p c => rfl
    | logged p l =>
      simp only [bl, List.append_cancel_right_eq] at ih
      simp [getL, bl, ih, Layer.blk]

theorem getL_calls {pm mp : Nat} (k : Int) (hk : i64ok k) : ∀ (ls : List Layer) (m : MS) (w : World), StackAt w pm mp m ls →
    Calls Try.prog (baseF 86 123 ls) #[baseV pm ls, .int .i64 k] w fun x w' => x = .returned (.tuple #[.int .i64 (getL ls m k).1, .int .i64 (getL ls m k).2.1]) ∧ StackAt w' pm mp m (getL ls m k).2.2 ∧ Chg (bl pm mp ls) w w'
  | [], m, w, h => (get_calls h k hk).mono fun x w' hx => ⟨hx.1, MemAt.chg h hx.2 (by simp) (by simp), hx.2.any⟩
  | .cached p c :: r, m, w, h => by
    obtain ⟨rfl, h1, h2, h3, h4⟩ := h
    refine (cget_calls h3 h4 k hk).mono ?_
    rintro x w' ⟨rfl, g1, g3⟩
    exact ⟨rfl, ⟨rfl, h1, h2, g1, h4.chg g3 (by simpa using h1.symm) (by simpa using h2.symm)⟩, g3.mono (by simp [bl, Layer.blk])⟩
  | .limited p c :: r, m, w, h => by
    obtain ⟨rfl, h1, h2, h3, h4⟩ := h
    refine (cget_calls h3 h4 k hk).mono ?_
    rintro x w' ⟨rfl, g1, g3⟩
    exact ⟨rfl, ⟨rfl, h1, h2, g1, h4.chg g3 (by simpa using h1.symm) (by simpa using h2.symm)⟩, g3.mono (by simp [bl, Layer.blk])⟩
  | .logged p l :: r, m, w, h => by
    obtain ⟨h1, h2, h3⟩ := h
    refine (getL_calls k hk r m w h3).mono ?_
    rintro x w' ⟨rfl, g1, g3⟩
    refine ⟨rfl, ⟨?_, ?_, g1⟩, g3.mono blk_bl⟩
    · rw [getL_bl]; exact h1
    · rw [getL_top]; exact h2.chg g3 h1

def clearL : List Layer → List Layer
  | [] => []
  | .cached p c :: r => .cached p { c with full := false } :: r
  | .limited p c :: r => .limited p { c with full := false } :: r
  | .logged p l :: r => .logged p l :: clearL r

theorem clearL_top (pm : Nat) (ls : List Layer) : topV pm (clearL ls) = topV pm ls := by
  cases ls with
  | nil => rfl
  | cons x r => cases x <;> rfl

theorem clearL_bl (pm mp : Nat) (ls : List Layer) : bl pm mp (clearL ls) = bl pm mp ls := by
  induction ls with
  | nil => rfl
  | cons x r ih =>
    cases x with
    | cached p c => rfl
    | limited p c => rfl
    | logged p l =>
      simp only [bl, List.append_cancel_right_eq] at ih
      simp [clearL, bl, ih, Layer.blk]

theorem clearL_calls {pm mp : Nat} : ∀ (ls : List Layer) (m : MS) (w : World), StackAt w pm mp m ls →
    Calls Try.prog (baseF 110 121 ls) #[baseV pm ls] w fun x w' => x = .returned (.tuple #[]) ∧ StackAt w' pm mp zeroM (clearL ls) ∧ Chg (bl pm mp ls) w w'
  | [], m, w, h => (clear_calls h).mono fun x w' hx => hx
  | .cached p c :: r, m, w, h => by
    obtain ⟨rfl, h1, h2, h3, h4⟩ := h
    refine (cclear_calls h3 h4 h1 h2).mono ?_
    rintro x w' ⟨rfl, g1, g2, g3⟩
    exact ⟨rfl, ⟨rfl, h1, h2, g1, g2⟩, g3⟩
  | .limited p c :: r, m, w, h => by
    obtain ⟨rfl, h1, h2, h3, h4⟩ := h
    refine (cclear_calls h3 h4 h1 h2).mono ?_
    rintro x w' ⟨rfl, g1, g2, g3⟩
    exact ⟨rfl, ⟨rfl, h1, h2, g1, g2⟩, g3⟩
  | .logged p l :: r, m, w, h => by
    obtain ⟨h1, h2, h3⟩ := h
    refine (clearL_calls r m w h3).mono ?_
    rintro x w' ⟨rfl, g1, g3⟩
    refine ⟨rfl, ⟨?_, ?_, g1⟩, g3.mono blk_bl⟩
    · rw [clearL_bl]; exact h1
    · rw [clearL_top]; exact h2.chg g3 h1

def nameL : List Layer → ByteArray
  | [] => ⟨#[109, 101, 109]⟩
  | .cached _ _ :: _ => ⟨#[99, 97, 99, 104, 101, 100]⟩
  | .limited _ _ :: _ => ⟨#[99, 97, 99, 104, 101, 100]⟩
  | .logged _ _ :: r => nameL r

theorem nameL_calls {pm : Nat} : ∀ (ls : List Layer) (w : World),
    Calls Try.prog (baseF 113 125 ls) #[baseV pm ls] w fun x w' => x = .returned (.string (nameL ls)) ∧ w' = w
  | [], w => name_calls w _
  | .cached p c :: r, w => cname_calls w _
  | .limited p c :: r, w => cname_calls w _
  | .logged p l :: r, w => nameL_calls r w
end Go.Proofs.Qxb6500371a.W

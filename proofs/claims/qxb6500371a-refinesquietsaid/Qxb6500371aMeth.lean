import Derived.Test.Qxb6500371aFr
import Derived.KernelRfl
set_option linter.unusedVariables false
namespace Go.Proofs.Qxb6500371a.W
open Go.RowKit

/-- A pointer to a block's start. -/
abbrev pt (b : Nat) : Value := .pointer (some ⟨b, 0, none⟩)

theorem mem_put (p : Nat) (w : World) : (method 228 45 (pt p) "Put").run Try.prog w = .ok (114, pt p) w := by kernel_rfl
theorem mem_get (p : Nat) (w : World) : (method 228 45 (pt p) "Get").run Try.prog w = .ok (86, pt p) w := by kernel_rfl
theorem mem_del (p : Nat) (w : World) : (method 228 45 (pt p) "Del").run Try.prog w = .ok (111, pt p) w := by kernel_rfl
theorem mem_clear (p : Nat) (w : World) : (method 228 45 (pt p) "Clear").run Try.prog w = .ok (110, pt p) w := by kernel_rfl
theorem mem_len (p : Nat) (w : World) : (method 228 45 (pt p) "Len").run Try.prog w = .ok (112, pt p) w := by kernel_rfl
theorem mem_name (p : Nat) (w : World) : (method 228 45 (pt p) "Name").run Try.prog w = .ok (113, pt p) w := by kernel_rfl
theorem mem_tell (p : Nat) (w : World) : (method 228 45 (pt p) "Tell").run Try.prog w = .ok (115, pt p) w := by kernel_rfl
theorem cached_put (p : Nat) (w : World) : (method 228 86 (pt p) "Put").run Try.prog w = .ok (126, pt p) w := by kernel_rfl
theorem cached_get (p : Nat) (w : World) : (method 228 86 (pt p) "Get").run Try.prog w = .ok (123, pt p) w := by kernel_rfl
theorem cached_del (p : Nat) (w : World) : (method 228 86 (pt p) "Del").run Try.prog w = .ok (122, pt p) w := by kernel_rfl
theorem cached_clear (p : Nat) (w : World) : (method 228 86 (pt p) "Clear").run Try.prog w = .ok (121, pt p) w := by kernel_rfl
theorem cached_name (p : Nat) (w : World) : (method 228 86 (pt p) "Name").run Try.prog w = .ok (125, pt p) w := by kernel_rfl
theorem cached_tell (p : Nat) (w : World) : (method 228 86 (pt p) "Tell").run Try.prog w = .ok (127, pt p) w := by kernel_rfl
theorem cached_hits (p : Nat) (w : World) : (method 228 86 (pt p) "Hits").run Try.prog w = .ok (124, pt p) w := by kernel_rfl
theorem limited_put (p : Nat) (w : World) : (method 228 91 (pt p) "Put").run Try.prog w = .ok (130, pt p) w := by kernel_rfl
theorem limited_tell (p : Nat) (w : World) : (method 228 91 (pt p) "Tell").run Try.prog w = .ok (131, pt p) w := by kernel_rfl
theorem logged_put (p : Nat) (w : World) : (method 228 53 (pt p) "Put").run Try.prog w = .ok (118, pt p) w := by kernel_rfl
theorem logged_del (p : Nat) (w : World) : (method 228 53 (pt p) "Del").run Try.prog w = .ok (116, pt p) w := by kernel_rfl
theorem logged_len (p : Nat) (w : World) : (method 228 53 (pt p) "Len").run Try.prog w = .ok (117, pt p) w := by kernel_rfl
theorem logged_tell (p : Nat) (w : World) : (method 228 53 (pt p) "Tell").run Try.prog w = .ok (119, pt p) w := by kernel_rfl
theorem limited_get (p : Nat) (w : World) : (method 228 91 (pt p) "Get").run Try.prog w = .ok (123, pt p) w := by kernel_rfl
theorem limited_del (p : Nat) (w : World) : (method 228 91 (pt p) "Del").run Try.prog w = .ok (122, pt p) w := by kernel_rfl
theorem limited_clear (p : Nat) (w : World) : (method 228 91 (pt p) "Clear").run Try.prog w = .ok (121, pt p) w := by kernel_rfl
theorem limited_name (p : Nat) (w : World) : (method 228 91 (pt p) "Name").run Try.prog w = .ok (125, pt p) w := by kernel_rfl
theorem limited_hits (p : Nat) (w : World) : (method 228 91 (pt p) "Hits").run Try.prog w = .ok (124, pt p) w := by kernel_rfl
end Go.Proofs.Qxb6500371a.W

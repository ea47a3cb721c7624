/-
  Two frames compared.
-/
import Derived.Test.YtijijfggppnbpaaFrmR
namespace Go.Proofs.Ytijijfggppnbpaa
open Go.RowKit Go.Shelf
set_option linter.unusedVariables false
namespace Frm
set_option maxRecDepth 100000 in
set_option maxHeartbeats 400000 in
theorem frame_ne (f g : Fr) (h : f ≠ g) (w : World) : (binOp .eql 25 (.agg #[.int .i64 f.k, .int .u16 (f.q : Int), .int .u32 (f.t : Int), .int .i32 f.a, .int .i32 f.b, .int .i32 f.c]) (.agg #[.int .i64 g.k, .int .u16 (g.q : Int), .int .u32 (g.t : Int), .int .i32 g.a, .int .i32 g.b, .int .i32 g.c])).run Try.prog w = .ok (.bool false) w := by
  obtain ⟨k, q, t, a, b, c⟩ := f
  obtain ⟨k', q', t', a', b', c'⟩ := g
  simp [go_sem]
  intro h1 h2 h3 h4 h5 h6
  have h2' : q = q' := by omega
  have h3' : t = t' := by omega
  exact h (by subst h1 h2' h3' h4 h5 h6; rfl)
set_option maxRecDepth 100000 in
set_option maxHeartbeats 400000 in
theorem frame_eq (f : Fr) (w : World) : (binOp .eql 25 (.agg #[.int .i64 f.k, .int .u16 (f.q : Int), .int .u32 (f.t : Int), .int .i32 f.a, .int .i32 f.b, .int .i32 f.c]) (.agg #[.int .i64 f.k, .int .u16 (f.q : Int), .int .u32 (f.t : Int), .int .i32 f.a, .int .i32 f.b, .int .i32 f.c])).run Try.prog w = .ok (.bool true) w := by
  simp [go_sem]
end Frm
end Go.Proofs.Ytijijfggppnbpaa

/-
  Package value: Sound.
-/
import Derived.Test.YteeabfdafnncfaaDoorQValG
namespace Go.Proofs.YteeabfdafnncfaaDoor
open Go.RowKit
set_option maxRecDepth 100000 in
set_option maxHeartbeats 1000000 in
theorem vSound_any (v : VT) (B : Nat) (w : World) (hin : VT.In B w v) (hT : Tabs B w) (hB : B ≤ w.heap.size) :
    Calls Tryd.prog 11 #[.agg #[.int .i64 v.a.k, .int .i64 v.a.n, .int .i64 v.a.sc, .string v.a.s, .slice v.a.A v.l.length v.a.cap]] w fun e w' => e = .returned (.bool (sdV 1 0 v).1) ∧ Below w.heap.size w w' := by
  have hS1 := fun (o : Obj) (o2 : Obj) => ((Same.refl B w).alloc hB o).alloc (show B ≤ (w.alloc o).heap.size by simp; omega) o2
  have hc := fun (o : Obj) => vsound_any v 1 0 (w.heap.size + 1) B ((w.alloc o).alloc (.cells #[.int .i64 0] 3)) (hin.keep (hS1 _ _)) (hT.keep (hS1 _ _)) (by simp; omega) (by omega) (by have := One.new (w.alloc o) 3 0; simpa using this) (by omega) (by omega) (by omega) (by omega)
  have Hc := Lib.hid hc
  clear hc hS1 hin hT
  go_enter Tryd.func11, Tryd.ntmps11
  go_wp2_with (go_at_call 18; refine (Hc.out _).mono ?_; rintro e w' ⟨rfl, hch, hon⟩)
  go_ret
  refine ⟨rfl, ?_⟩
  have h1 : Ch (w.heap.size + 1) w ((w.alloc (.cells #[.int .i64 v.a.k, .int .i64 v.a.n, .int .i64 v.a.sc, .string v.a.s, .slice v.a.A v.l.length v.a.cap] 29)).alloc (.cells #[.int .i64 0] 3)) := ((Ch.refl _ w).alloc _).alloc _
  exact (h1.trans hch).below (by omega)
end Go.Proofs.YteeabfdafnncfaaDoor

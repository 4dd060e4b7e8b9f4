/- flickerbooklaw.LightPicture returns what it says. Conditions: none. -/
import Derived.Test.YtgkemeclpidmcaaErr
import Derived.WalkKit
import Derived.Lib.QuietBelow
namespace Fb
open Go Go.Proofs Go.RowKit Go.Sort
theorem cell_all {w : World} {p : Addr} {v : Value} (hb : p.block < w.heap.size) (h : w.cell? p = some v) (d : Nat) (os : Array Go.Obj) : (grow (redrawn w d) os).cell? p = some v :=
  ((below_regrown w d os).cell hb).trans h
theorem Pixs.all {w : World} {A : Option Addr} {n : Nat} {l : List Px} (h : Pixs w A n l) (d : Nat) (os : Array Go.Obj) : Pixs (grow (redrawn w d) os) A n l := h.below (below_regrown w d os)
set_option maxRecDepth 100000 in
set_option maxHeartbeats 400000 in
theorem lightpic_any (r : FAt FPic) (w : World) :
    Calls Try.prog 35 #[.agg #[.int .i64 r.x.w, .int .i64 r.x.h, .slice r.A r.n r.c]] w (Ret (.bool (decide (r.n ≤ 80))) w) := by
  go_enter Try.func35, Try.ntmps35
  go_wp2
  go_ret
  refine ⟨ret_bool ?_, (Below.refl _ _).alloc (Nat.le_refl _) _⟩
  rw [Bool.eq_iff_iff]; simp; try omega
theorem all_stepG {α : Type} {f : α → Bool} {l : List α} {k : Nat} (h : k < l.length) (ha : (l.take k).all f = true) (hc : f l[k] = true) : (l.take (k + 1)).all f = true := by
  rw [List.take_succ_eq_append_getElem h, List.all_append]; simp [ha, hc]
theorem all_badG {α : Type} {f : α → Bool} {l : List α} {k : Nat} (h : k < l.length) (hc : f l[k] = false) : l.all f = false := by
  rw [List.all_eq_false]; exact ⟨l[k], List.getElem_mem h, by simp [hc]⟩
end Fb

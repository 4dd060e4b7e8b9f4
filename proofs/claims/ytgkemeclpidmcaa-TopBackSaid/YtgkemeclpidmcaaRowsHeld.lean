/- A slice that the call owns, whose elements are slices of other blocks: what these read as stays so while it grows, and while a strings.Builder is written. No conditions. -/
import Derived.Test.YtgkemeclpidmcaaOwnKit
import Derived.Lib.OthersKept
namespace Fb
open Go Go.RowKit
/-- the slice's block is a row of type T -/
def Typed (w : World) (A : Option Addr) (n : Nat) (T : TypeId) : Prop := 0 < n → ∀ a, A = some a → ∃ cur fz, w.heap[a.block]? = some (.cells cur T fz)
theorem Typed.lt {w : World} {A : Option Addr} {n : Nat} {T : TypeId} (h : Typed w A n T) (hn : 0 < n) (a : Addr) (ha : A = some a) : a.block < w.heap.size := by
  obtain ⟨cur, fz, e⟩ := h hn a ha
  exact (Array.getElem?_eq_some_iff.1 e).1
theorem Typed.below {w w' : World} {A : Option Addr} {n : Nat} {T : TypeId} (h : Typed w A n T) (hb : Below w.heap.size w w') : Typed w' A n T := fun hn a ha => by
  obtain ⟨cur, fz, e⟩ := h hn a ha
  exact ⟨cur, fz, by rw [hb.block a.block (h.lt hn a ha)]; exact e⟩
theorem Typed.grown {w w' : World} {own : Option Nat} {A : Option Addr} {n : Nat} {T : TypeId} (h : Typed w A n T) (hg : w.grownBy w' own) (hne : 0 < n → ∀ a, A = some a → own ≠ some a.block) : Typed w' A n T := fun hn a ha => by
  obtain ⟨cur, fz, e⟩ := h hn a ha
  exact ⟨cur, fz, by rw [hg.block a.block (h.lt hn a ha) (fun e => hne hn a ha e.symm)]; exact e⟩
theorem Typed.own {w : World} {base e size n c : Nat} {A : Option Addr} {xs : List Value} (h : w.ownsRow base e size (.slice A n c) n xs) : Typed w A n e := fun hn a ha => by
  rcases h.2 with ⟨_, h0⟩ | ⟨g, cap, cur, hv, hg, hh, r⟩
  · omega
  · simp only [Value.slice.injEq] at hv
    obtain ⟨h1, -, -⟩ := hv
    rw [h1] at ha
    injection ha with ha
    subst ha
    exact ⟨cur, (0, 0), hh⟩
/-- a row of another type than the builder's stays while the builder is written -/
theorem Typed.others {w w' : World} {A : Option Addr} {n b : Nat} {T e TB : TypeId} {cb : Array Value} {fb : Nat × Nat} (h : Typed w A n T) (ho : Lib.OthersKept e (some b) w w') (hb : w.heap[b]? = some (.cells cb TB fb)) (h1 : T ≠ e) (h2 : T ≠ TB) : Typed w' A n T := fun hn a ha => by
  obtain ⟨cur, fz, e⟩ := h hn a ha
  refine ⟨cur, fz, ho _ _ e ?_ ?_⟩
  · intro e2; injection e2 with e2
    rw [e2, hb] at e
    injection e with e; injection e with _ e3 _
    exact h2 e3.symm
  · intro c f e2; injection e2 with _ e3 _; exact h1 e3
theorem Row.others {w w' : World} {A : Option Addr} {n b size : Nat} {cs : List Value} {T e TB : TypeId} {cb : Array Value} {fb : Nat × Nat} (h : Row w A n size cs) (ht : Typed w A n T) (ho : Lib.OthersKept e (some b) w w') (hb : w.heap[b]? = some (.cells cb TB fb)) (h1 : T ≠ e) (h2 : T ≠ TB) : Row w' A n size cs := by
  refine ⟨h.1, fun hn => ?_⟩
  obtain ⟨g, off, rfl, hg, hc⟩ := h.2 hn
  obtain ⟨cur, fz, e3⟩ := ht hn _ rfl
  have e4 := ho g _ e3 (by
    intro e2; injection e2 with e2
    rw [show ((⟨g, off, none⟩ : Addr).block) = g from rfl, e2, hb] at e3
    injection e3 with e3; injection e3 with _ e3 _
    exact h2 e3.symm) (by intro c f e2; injection e2 with _ e3 _; exact h1 e3)
  refine ⟨g, off, rfl, (Array.getElem?_eq_some_iff.1 e4).1, fun j u hu => ?_⟩
  rw [World.cell?_of_block (w := w) (w' := w') (by rw [e4]; exact e3.symm)]
  exact hc j u hu
/-- each element's own slice reads as before, and lies in another block than 'own' -/
def RowsHeld {α : Type} (size : Nat) (T : TypeId) (cs : FAt α → List Value) (w : World) (own : Option Nat) (rs : List (FAt α)) : Prop :=
  ∀ q ∈ rs, Row w q.A q.n size (cs q) ∧ Typed w q.A q.n T ∧ (0 < q.n → ∀ a, q.A = some a → own ≠ some a.block)
theorem RowsHeld.nil {α : Type} {size : Nat} {T : TypeId} {cs : FAt α → List Value} {w : World} {own : Option Nat} : RowsHeld size T cs w own [] := fun q h => by cases h
theorem RowsHeld.below {α : Type} {size : Nat} {T : TypeId} {cs : FAt α → List Value} {w w' : World} {own : Option Nat} {rs : List (FAt α)} (h : RowsHeld size T cs w own rs) (hb : Below w.heap.size w w') : RowsHeld size T cs w' own rs :=
  fun q hq => ⟨(h q hq).1.below hb, (h q hq).2.1.below hb, (h q hq).2.2⟩
theorem RowsHeld.grown {α : Type} {size : Nat} {T : TypeId} {cs : FAt α → List Value} {w w' : World} {own : Option Nat} {g : Nat} {rs : List (FAt α)} (h : RowsHeld size T cs w own rs) (hg : w.grownBy w' own) (hat : own = some g ∨ g = w.heap.size) : RowsHeld size T cs w' (some g) rs :=
  fun q hq => ⟨(h q hq).1.grown hg (h q hq).2.2, (h q hq).2.1.grown hg (h q hq).2.2, fun hn a ha => by
    rcases hat with e | e
    · rw [← e]; exact (h q hq).2.2 hn a ha
    · intro e2; injection e2 with e2
      have := (h q hq).2.1.lt hn a ha
      omega⟩
theorem RowsHeld.snoc {α : Type} {size : Nat} {T : TypeId} {cs : FAt α → List Value} {w : World} {own : Option Nat} {rs : List (FAt α)} {r : FAt α} (h : RowsHeld size T cs w own rs) (hr : Row w r.A r.n size (cs r)) (ht : Typed w r.A r.n T) (hne : 0 < r.n → ∀ a, r.A = some a → own ≠ some a.block) : RowsHeld size T cs w own (rs ++ [r]) := by
  intro q hq
  rcases List.mem_append.1 hq with hq | hq
  · exact h q hq
  · simp only [List.mem_singleton] at hq
    subst hq
    exact ⟨hr, ht, hne⟩
end Fb

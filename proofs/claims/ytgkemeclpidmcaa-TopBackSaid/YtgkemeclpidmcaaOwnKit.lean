/- Rows that the call owns: kept by what keeps all old blocks; their last element's cells; new cells. No conditions. -/
import Derived.Test.YtgkemeclpidmcaaBase
import Derived.Laws.OwnMore
import Derived.Deep.AppendLies
namespace Fb
open Go Go.RowKit
theorem own_keep {w w1 : World} {base : Nat} {e : TypeId} {size n : Nat} {v : Value} {xs : List Value} (h : w.ownsRow base e size v n xs) (hb : Below w.heap.size w w1) : w1.ownsRow base e size v n xs := by
  obtain ⟨h1, h2⟩ := h
  refine ⟨h1, ?_⟩
  rcases h2 with h2 | ⟨g, cap, cur, hv, hg, hh, r⟩
  · exact Or.inl h2
  · exact Or.inr ⟨g, cap, cur, hv, hg, by rw [hb.block g (Array.getElem?_eq_some_iff.1 hh).1]; exact hh, r⟩
theorem new_cells (w : World) (cs : Array Value) (t : TypeId) : ∀ j u, cs.toList[j]? = some u → (w.alloc (.cells cs t)).cell? ((⟨w.heap.size, 0, none⟩ : Addr).add j) = some u := by
  intro j u hj
  have h := cell_of_row (w.alloc (.cells cs t)) w.heap.size j cs t (0, 0) (heap_alloc_new w _)
  have e : cs[j]? = some u := by rw [← hj]; simp
  rw [e] at h
  by_cases h0 : j = 0
  · subst h0; simpa [Addr.add] using h
  · simpa [Addr.add, h0] using h
/-- cell j of the element k of a row that is owned -/
theorem own_cell {α : Type} {cel : α → List Value} {size : Nat} (hcel : ∀ a, (cel a).length = size) {w : World} {base : Nat} {e : TypeId} {g n cap : Nat} {l : List α}
    (h : w.ownsRow base e size (.slice (some ⟨g, 0, none⟩) n cap) n (l.flatMap cel)) {k j : Nat} {a : α} (hk : l[k]? = some a) (hj : j < size) : w.cell? ⟨g, k * size + j, none⟩ = (cel a)[j]? := by
  have hl : l.length * size = n * size := by rw [← flat_len hcel l]; exact h.1
  have hkl : k < l.length := (List.getElem?_eq_some_iff.1 hk).1
  have : k * size + j < n * size := by
    rw [← hl]
    have h2 : (k + 1) * size ≤ l.length * size := Nat.mul_le_mul_right _ hkl
    rw [Nat.add_mul] at h2
    omega
  rw [h.cellAt _ this, flat_at hcel l k j a hk hj]
theorem flat_set {α : Type} {cel : α → List Value} {size : Nat} (hcel : ∀ a, (cel a).length = size) (i : List α) (a b : α) (j : Nat) (u : Value) (_hj : j < size) (hb : cel b = (cel a).set j u) :
    ((i ++ [a]).flatMap cel).set (i.length * size + j) u = (i ++ [b]).flatMap cel := by
  simp only [List.flatMap_append, List.flatMap_cons, List.flatMap_nil, List.append_nil]
  rw [List.set_append, if_neg (by rw [flat_len hcel]; omega), flat_len hcel, Nat.add_sub_cancel_left, hb]
/-- a block that was just made, read as a row -/
theorem row_new (w : World) (cs : Array Value) (t : TypeId) (n size : Nat) (h : cs.size = n * size) : Row (w.alloc (.cells cs t)) (some ⟨w.heap.size, 0, none⟩) n size cs.toList :=
  ⟨by simpa using h, fun _ => ⟨w.heap.size, 0, rfl, by simp, fun j u hu => by
    have h2 := new_cells w cs t j u hu
    by_cases h0 : j = 0
    · subst h0; simpa [Addr.add] using h2
    · simpa [Addr.add, h0] using h2⟩⟩
theorem pixs_none (w : World) (A : Option Addr) : Pixs w A 0 [] := ⟨rfl, Row.none_ _ _ _⟩
end Fb

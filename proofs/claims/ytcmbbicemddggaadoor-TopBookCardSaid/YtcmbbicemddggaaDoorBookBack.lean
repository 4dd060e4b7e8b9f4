/- A book is read as it was written; chunks of other names are passed over. Plain Lean. Conditions: those of each lemma. -/
import Derived.Test.YtcmbbicemddggaaDoorBookBytesW
import Derived.Test.YtcmbbicemddggaaDoorBookRead
set_option linter.unusedSimpArgs false
set_option linter.unusedVariables false
namespace Fb
def chunkOf (o : FOp) : Bs × Bs := (opName o.kind, opData o)
def chunksOf (l : List FOp) : List (Bs × Bs) := l.map chunkOf
theorem opName_first (k : Int) (h1 : 1 ≤ k) (h2 : k ≤ 16) : (opName k).getD 0 0 ≠ 88 := by
  rcases (show k = 1 ∨ k = 2 ∨ k = 3 ∨ k = 4 ∨ k = 5 ∨ k = 6 ∨ k = 7 ∨ k = 8 ∨ k = 9 ∨ k = 10 ∨ k = 11 ∨ k = 12 ∨ k = 13 ∨ k = 14 ∨ k = 15 ∨ k = 16 by omega) with rfl | rfl | rfl | rfl | rfl | rfl | rfl | rfl | rfl | rfl | rfl | rfl | rfl | rfl | rfl | rfl <;> decide
theorem opsGo_back : ∀ (l acc : List FOp) (r : List (Bs × Bs)), (∀ o ∈ l, opFault o = 0) → opsGo (chunksOf l ++ r) acc = opsGo r (acc ++ l)
  | [], acc, r, _ => by simp [chunksOf]
  | o :: l, acc, r, h => by
    have ho := h o (by simp)
    obtain ⟨⟨k1, k2⟩, -⟩ := opFault_fine ho
    have hb := op_back ho
    show opsGo (chunkOf o :: (chunksOf l ++ r)) acc = _
    rw [opsGo_ok (c := chunkOf o) (opName_first _ k1 k2) (by unfold chunkOf; rw [hb])]
    rw [opsGo_back l _ r (fun q hq => h q (by simp [hq]))]
    unfold chunkOf
    rw [hb]
    simp
theorem told_cat : ∀ (l : List FOp), l.flatMap opBytes = catL (chunksOf l)
  | [] => rfl
  | o :: l => by
    rw [List.flatMap_cons, told_cat l]
    rfl
theorem chunks_fine {l : List FOp} (h : ∀ o ∈ l, opFault o = 0) : FineL (chunksOf l) := by
  intro p hp
  obtain ⟨o, ho, rfl⟩ := List.mem_map.1 hp
  exact chunkF_zero (op_chunkF (h o ho))
/-- all chunks of a book's bytes, with one more among them -/
theorem all_with {l : List FOp} (h : ∀ o ∈ l, opFault o = 0) (hl : l.length ≤ 100) (k : Nat) (x : List (Bs × Bs)) (hx : FineL x) (hxl : x.length ≤ 10) :
    allL (catL (chunksOf (l.take k)) ++ catL x ++ catL (chunksOf (l.drop k))) 120 = (chunksOf (l.take k) ++ x ++ chunksOf (l.drop k), 0) := by
  have e : catL (chunksOf (l.take k)) ++ catL x ++ catL (chunksOf (l.drop k)) = catL (chunksOf (l.take k) ++ x ++ chunksOf (l.drop k)) := by simp [catL]
  rw [e]
  have hf : FineL (chunksOf (l.take k) ++ x ++ chunksOf (l.drop k)) := by
    intro p hp
    simp only [List.mem_append] at hp
    rcases hp with (hp | hp) | hp
    · exact chunks_fine (fun o ho => h o (List.mem_of_mem_take ho)) p hp
    · exact hx p hp
    · exact chunks_fine (fun o ho => h o (List.mem_of_mem_drop ho)) p hp
  have hlen : (chunksOf (l.take k) ++ x ++ chunksOf (l.drop k)).length ≤ 120 := by
    simp only [List.length_append, chunksOf, List.length_map, List.length_take, List.length_drop]
    omega
  have := all_cat 120 (catL (chunksOf (l.take k) ++ x ++ chunksOf (l.drop k))) _ [] hf (AllInv.start _ _) (by simp only [List.length_nil]; omega)
  simpa using this
theorem fine_mem {l : List FOp} (hf : BookFine l) : ∀ o ∈ l, opFault o = 0 := by
  intro o ho
  obtain ⟨i, hi, rfl⟩ := List.mem_iff_getElem.1 ho
  have := hf.ops i hi
  rwa [opAt_get hi] at this
/-- chunks that begin with X are passed over -/
theorem opsGo_xs : ∀ (x : List (Bs × Bs)) (acc : List FOp) (r : List (Bs × Bs)), (∀ c ∈ x, c.1.getD 0 0 = 88) → opsGo (x ++ r) acc = opsGo r acc
  | [], acc, r, _ => rfl
  | c :: x, acc, r, h => by
    rw [List.cons_append, opsGo_x (h c (by simp))]
    exact opsGo_xs x acc r (fun q hq => h q (by simp [hq]))
/-- a book is read as it was written, whatever chunks of other names stand in it, unless it is too long -/
theorem book_more {l : List FOp} (hf : BookFine l) (k : Nat) (x : List (Bs × Bs)) (hx : FineL x) (hxl : x.length ≤ 10) (hx88 : ∀ c ∈ x, c.1.getD 0 0 = 88)
    (hlen : (catL (chunksOf (l.take k)) ++ catL x ++ catL (chunksOf (l.drop k))).length ≤ 4000) : bookOf (catL (chunksOf (l.take k)) ++ catL x ++ catL (chunksOf (l.drop k))) = (l, 0) := by
  have hm := fine_mem hf
  have h60 := hf.few
  have ha := all_with hm (by omega) k x hx hxl
  rw [bookOf_go (by omega) (by rw [ha]), ha]
  show readEnd (opsGo (chunksOf (l.take k) ++ x ++ chunksOf (l.drop k)) []) = (l, 0)
  rw [List.append_assoc, opsGo_back _ _ _ (fun o ho => hm o (List.mem_of_mem_take ho)), opsGo_xs _ _ _ hx88]
  have := opsGo_back (l.drop k) ([] ++ l.take k) [] (fun o ho => hm o (List.mem_of_mem_drop ho))
  rw [List.append_nil] at this
  rw [this, opsGo, List.nil_append, List.take_append_drop]
  exact readEnd_ok (book_of hf)
theorem book_back {l : List FOp} (hf : BookFine l) (hlen : (toldB l l.length).length ≤ 4000) : bookOf (toldB l l.length) = (l, 0) := by
  have e : toldB l l.length = catL (chunksOf (l.take 0)) ++ catL [] ++ catL (chunksOf (l.drop 0)) := by
    rw [toldB_all, told_cat]
    simp [catL, chunksOf]
  rw [e] at hlen ⊢
  exact book_more hf 0 [] (fun p hp => by simp at hp) (by simp) (fun c hc => by simp at hc) hlen
theorem book_long {l : List FOp} (hlen : 4000 < (toldB l l.length).length) : bookOf (toldB l l.length) = ([], 2) := bookOf_many hlen
end Fb

/- Chunks as lists of bytes, in plain Lean: their sums, names, bytes, what is read of them; a chunk is read as it was written, and what is spoilt is found. Conditions: none beyond those of each lemma. chunk.Sum, Name and the reference's two: they return what the plain laws of chunks say. Conditions: a text is no longer than a Go text may be. -/
import Derived.Test.YtcmbbicemddggaaDoorPlainA
set_option linter.unusedSimpArgs false
set_option linter.unusedVariables false
namespace Fb
open Go Go.RowKit
abbrev Bs := List UInt8
/-! ## sums -/
def sumStep (p : Nat × Nat) (c : UInt8) : Nat × Nat := ((p.1 + c.toNat) % 251, (p.2 + (p.1 + c.toNat) % 251) % 251)
def sumL (l : Bs) : Nat × Nat := l.foldl sumStep (1, 0)
theorem sumL_nil : sumL [] = (1, 0) := rfl
theorem sumL_snoc (l : Bs) (c : UInt8) : sumL (l ++ [c]) = sumStep (sumL l) c := by simp [sumL, List.foldl_append]
theorem foldl_lt (l : Bs) : ∀ p : Nat × Nat, p.1 < 251 → p.2 < 251 → (l.foldl sumStep p).1 < 251 ∧ (l.foldl sumStep p).2 < 251 := by
  induction l with
  | nil => intro p h1 h2; exact ⟨h1, h2⟩
  | cons c l ih => intro p h1 h2; exact ih _ (by unfold sumStep; exact Nat.mod_lt _ (by omega)) (by unfold sumStep; exact Nat.mod_lt _ (by omega))
theorem sumL_lt (l : Bs) : (sumL l).1 < 251 ∧ (sumL l).2 < 251 := foldl_lt l _ (by decide) (by decide)
theorem take_snoc {α : Type} (l : List α) (k : Nat) (h : k < l.length) : l.take (k + 1) = l.take k ++ [l[k]] := List.take_succ_eq_append_getElem h
theorem sumL_take (l : Bs) (k : Nat) (h : k < l.length) : (sumL (l.take (k + 1))).1 = ((sumL (l.take k)).1 + l[k].toNat) % 251 ∧ (sumL (l.take (k + 1))).2 = ((sumL (l.take k)).2 + ((sumL (l.take k)).1 + l[k].toNat) % 251) % 251 := by
  rw [take_snoc l k h, sumL_snoc]; exact ⟨rfl, rfl⟩
def tot (l : Bs) : Nat := (l.map (·.toNat)).sum
theorem foldl_fst (l : Bs) : ∀ p : Nat × Nat, p.1 < 251 → (l.foldl sumStep p).1 = (p.1 + tot l) % 251 := by
  induction l with
  | nil => intro p h; simp [tot]; omega
  | cons c l ih =>
    intro p h
    have e := ih (sumStep p c) (by unfold sumStep; exact Nat.mod_lt _ (by omega))
    simp only [List.foldl_cons, e]
    simp only [sumStep, tot, List.map_cons, List.sum_cons]
    omega
theorem sumL_fst (l : Bs) : (sumL l).1 = (1 + tot l) % 251 := foldl_fst l (1, 0) (by decide)
theorem tot_set (l : Bs) (k : Nat) (c : UInt8) (h : k < l.length) : tot (l.set k c) + l[k].toNat = tot l + c.toNat := by
  induction l generalizing k with
  | nil => simp at h
  | cons a l ih =>
    cases k with
    | zero => simp [tot]; omega
    | succ k =>
      have := ih k (by simpa using h)
      simp [tot] at this ⊢
      omega
theorem sum_spoilt (l : Bs) (k : Nat) (c : UInt8) (h : k < l.length) (hne : c.toNat % 251 ≠ l[k].toNat % 251) : (sumL (l.set k c)).1 ≠ (sumL l).1 := by
  rw [sumL_fst, sumL_fst]
  have := tot_set l k c h
  omega
/-! ## names -/
def capB (c : UInt8) : Bool := decide (65 ≤ c.toNat ∧ c.toNat ≤ 90)
def nameB (l : Bs) : Bool := decide (l.length = 4) && l.all capB
theorem capB_low {c : UInt8} (h : c.toNat < 65) : capB c = false := by unfold capB; simp; omega
theorem capB_high {c : UInt8} (h : 90 < c.toNat) : capB c = false := by unfold capB; simp; omega
theorem capB_ok {c : UInt8} (h : 65 ≤ c.toNat) (h' : c.toNat ≤ 90) : capB c = true := by unfold capB; simp; omega
theorem nameB_bad {l : Bs} {k : Nat} (h : k < l.length) (hc : capB l[k] = false) : nameB l = false := by
  unfold nameB
  have : l.all capB = false := by
    rw [List.all_eq_false]
    exact ⟨l[k], List.getElem_mem h, by simp [hc]⟩
  simp [this]
theorem all_take {l : Bs} {k : Nat} (h : k < l.length) (ha : (l.take k).all capB = true) (hc : capB l[k] = true) : (l.take (k + 1)).all capB = true := by
  rw [take_snoc l k h, List.all_append]; simp [ha, hc]
theorem nameB_len {l : Bs} (h : l.length ≠ 4) : nameB l = false := by unfold nameB; simp [h]
theorem nameB_done {l : Bs} (ha : l.all capB = true) : nameB l = decide (l.length = 4) := by unfold nameB; simp [ha]
theorem nameB_four {l : Bs} (h : nameB l = true) : l.length = 4 := by unfold nameB at h; simp at h; exact h.1
/-! ## bytes of a chunk, and what is read of one -/
def chunkF (n d : Bs) : Nat := if nameB n = false then 3 else if 65535 < d.length then 2 else 0
def bodyL (n d : Bs) : Bs := n ++ [UInt8.ofNat d.length, UInt8.ofNat (d.length / 256)] ++ d
def chunkS (n d : Bs) : Bs := bodyL n d ++ [UInt8.ofNat (sumL (bodyL n d)).1, UInt8.ofNat (sumL (bodyL n d)).2]
def chunkB (n d : Bs) : Bs := if chunkF n d = 0 then chunkS n d else []
theorem chunkF_name {n d : Bs} (h : nameB n = false) : chunkF n d = 3 := by unfold chunkF; simp [h]
theorem chunkF_many {n d : Bs} (h : nameB n = true) (h' : 65535 < d.length) : chunkF n d = 2 := by unfold chunkF; simp [h, h']
theorem chunkF_ok {n d : Bs} (h : nameB n = true) (h' : d.length ≤ 65535) : chunkF n d = 0 := by
  unfold chunkF
  have : ¬ 65535 < d.length := by omega
  simp [h, this]
theorem chunkB_bad {n d : Bs} (h : chunkF n d ≠ 0) : chunkB n d = [] := by unfold chunkB; rw [if_neg h]
theorem chunkB_ok {n d : Bs} (h : chunkF n d = 0) : chunkB n d = chunkS n d := by unfold chunkB; rw [if_pos h]
theorem chunkF_le (n d : Bs) : chunkF n d ≤ 8 := by unfold chunkF; split <;> (try split) <;> omega
theorem chunkF_zero {n d : Bs} (h : chunkF n d = 0) : nameB n = true ∧ d.length ≤ 65535 := by
  unfold chunkF at h
  by_cases h1 : nameB n = false
  · simp [h1] at h
  · by_cases h2 : 65535 < d.length
    · simp [h1, h2] at h
    · exact ⟨by simpa using h1, by omega⟩
def firstN (L : Bs) : Nat := (L.getD 4 0).toNat + 256 * (L.getD 5 0).toNat
def firstF (L : Bs) : Nat :=
  if L.length < 8 then 4 else if nameB (L.take 4) = false ∨ L.length < 8 + firstN L then 4
  else if (sumL (L.take (6 + firstN L))).1 ≠ (L.getD (6 + firstN L) 0).toNat ∨ (sumL (L.take (6 + firstN L))).2 ≠ (L.getD (7 + firstN L) 0).toNat then 6 else 0
def firstA (L : Bs) : Bs := if firstF L = 0 then L.take 4 else []
def firstD (L : Bs) : Bs := if firstF L = 0 then (L.take (6 + firstN L)).drop 6 else []
def firstR (L : Bs) : Bs := if firstF L = 0 then L.drop (8 + firstN L) else []
theorem firstF_short {L : Bs} (h : L.length < 8) : firstF L = 4 := by unfold firstF; rw [if_pos h]
theorem firstF_name {L : Bs} (h : 8 ≤ L.length) (h1 : nameB (L.take 4) = false) : firstF L = 4 := by unfold firstF; rw [if_neg (by omega), if_pos (.inl h1)]
theorem firstF_less {L : Bs} (h : 8 ≤ L.length) (h1 : L.length < 8 + firstN L) : firstF L = 4 := by unfold firstF; rw [if_neg (by omega), if_pos (.inr h1)]
theorem firstF_sum {L : Bs} (h : 8 ≤ L.length) (h0 : nameB (L.take 4) = true) (h1 : 8 + firstN L ≤ L.length)
    (h2 : (sumL (L.take (6 + firstN L))).1 ≠ (L.getD (6 + firstN L) 0).toNat ∨ (sumL (L.take (6 + firstN L))).2 ≠ (L.getD (7 + firstN L) 0).toNat) : firstF L = 6 := by
  unfold firstF; rw [if_neg (by omega), if_neg (by rw [h0]; simp; omega), if_pos h2]
theorem firstF_ok {L : Bs} (h : 8 ≤ L.length) (h0 : nameB (L.take 4) = true) (h1 : 8 + firstN L ≤ L.length)
    (h2 : (sumL (L.take (6 + firstN L))).1 = (L.getD (6 + firstN L) 0).toNat) (h3 : (sumL (L.take (6 + firstN L))).2 = (L.getD (7 + firstN L) 0).toNat) : firstF L = 0 := by
  unfold firstF; rw [if_neg (by omega), if_neg (by rw [h0]; simp; omega), if_neg (by rw [h2, h3]; simp)]
theorem firstF_le (L : Bs) : firstF L ≤ 8 := by unfold firstF; split <;> (try split) <;> (try split) <;> omega
theorem firstF_zero {L : Bs} (h : firstF L = 0) : 8 ≤ L.length ∧ nameB (L.take 4) = true ∧ 8 + firstN L ≤ L.length := by
  unfold firstF at h
  by_cases h1 : L.length < 8
  · rw [if_pos h1] at h; omega
  · rw [if_neg h1] at h
    by_cases h2 : nameB (L.take 4) = false ∨ L.length < 8 + firstN L
    · rw [if_pos h2] at h; omega
    · simp at h2
      exact ⟨by omega, by simpa using h2.1, by omega⟩
theorem firstA_bad {L : Bs} (h : firstF L ≠ 0) : firstA L = [] := by unfold firstA; rw [if_neg h]
theorem firstD_bad {L : Bs} (h : firstF L ≠ 0) : firstD L = [] := by unfold firstD; rw [if_neg h]
theorem firstR_bad {L : Bs} (h : firstF L ≠ 0) : firstR L = [] := by unfold firstR; rw [if_neg h]
theorem firstA_ok {L : Bs} (h : firstF L = 0) : firstA L = L.take 4 := by unfold firstA; rw [if_pos h]
theorem firstD_ok {L : Bs} (h : firstF L = 0) : firstD L = (L.take (6 + firstN L)).drop 6 := by unfold firstD; rw [if_pos h]
theorem firstR_ok {L : Bs} (h : firstF L = 0) : firstR L = L.drop (8 + firstN L) := by unfold firstR; rw [if_pos h]
theorem firstR_len {L : Bs} (h : firstF L = 0) : (firstR L).length + 8 ≤ L.length := by
  have := firstF_zero h
  rw [firstR_ok h, List.length_drop]; omega
/-! ### a chunk that was written is read so -/
theorem bodyL_len {n d : Bs} (hn : nameB n = true) : (bodyL n d).length = 6 + d.length := by have := nameB_four hn; simp [bodyL]; omega
theorem chunkS_len {n d : Bs} (hn : nameB n = true) : (chunkS n d).length = 8 + d.length := by have := bodyL_len (d := d) hn; simp [chunkS]; omega
theorem ofNat_lt {k : Nat} (h : k < 256) : (UInt8.ofNat k).toNat = k := by simp; omega
theorem len_bytes (n : Nat) (h : n ≤ 65535) : (UInt8.ofNat n).toNat + 256 * (UInt8.ofNat (n / 256)).toNat = n := by simp; omega
theorem bodyL_four {n : Bs} (hn : nameB n = true) : ∃ a b c e, n = [a, b, c, e] := by
  have := nameB_four hn
  match n, this with
  | [a, b, c, e], _ => exact ⟨a, b, c, e, rfl⟩
theorem firstN_chunk {n d r : Bs} (hn : nameB n = true) (hd : d.length ≤ 65535) : firstN (chunkS n d ++ r) = d.length := by
  obtain ⟨a, b, c, e, rfl⟩ := bodyL_four hn
  have := len_bytes _ hd
  simpa [firstN, chunkS, bodyL] using this
theorem take4_chunk {n d r : Bs} (hn : nameB n = true) : (chunkS n d ++ r).take 4 = n := by
  obtain ⟨a, b, c, e, rfl⟩ := bodyL_four hn
  simp [chunkS, bodyL]
theorem chunkS_app (n d r : Bs) : chunkS n d ++ r = bodyL n d ++ ([UInt8.ofNat (sumL (bodyL n d)).1, UInt8.ofNat (sumL (bodyL n d)).2] ++ r) := by unfold chunkS; rw [List.append_assoc]
theorem take_body {n d r : Bs} (hn : nameB n = true) : (chunkS n d ++ r).take (6 + d.length) = bodyL n d := by
  rw [chunkS_app, ← bodyL_len (d := d) hn, List.take_left]
theorem getD_sum {n d r : Bs} (hn : nameB n = true) : (chunkS n d ++ r).getD (6 + d.length) 0 = UInt8.ofNat (sumL (bodyL n d)).1 ∧ (chunkS n d ++ r).getD (7 + d.length) 0 = UInt8.ofNat (sumL (bodyL n d)).2 := by
  have hl := bodyL_len (d := d) hn
  rw [chunkS_app]
  simp only [List.getD_eq_getElem?_getD]
  refine ⟨?_, ?_⟩
  · rw [List.getElem?_append_right (by omega), hl, show 6 + d.length - (6 + d.length) = 0 by omega]; simp
  · rw [List.getElem?_append_right (by omega), hl, show 7 + d.length - (6 + d.length) = 1 by omega]; simp
theorem firstF_chunk {n d r : Bs} (hn : nameB n = true) (hd : d.length ≤ 65535) : firstF (chunkS n d ++ r) = 0 := by
  have hl := chunkS_len (d := d) hn
  have hs := sumL_lt (bodyL n d)
  apply firstF_ok
  · simp; omega
  · rw [take4_chunk hn]; exact hn
  · rw [firstN_chunk hn hd]; simp; omega
  · rw [firstN_chunk hn hd, take_body hn, (getD_sum hn).1, ofNat_lt (by omega)]
  · rw [firstN_chunk hn hd, take_body hn, (getD_sum hn).2, ofNat_lt (by omega)]
theorem firstA_chunk {n d r : Bs} (hn : nameB n = true) (hd : d.length ≤ 65535) : firstA (chunkS n d ++ r) = n := by
  rw [firstA_ok (firstF_chunk hn hd), take4_chunk hn]
theorem firstD_chunk {n d r : Bs} (hn : nameB n = true) (hd : d.length ≤ 65535) : firstD (chunkS n d ++ r) = d := by
  rw [firstD_ok (firstF_chunk hn hd), firstN_chunk hn hd, take_body hn]
  obtain ⟨a, b, c, e, rfl⟩ := bodyL_four hn
  simp [bodyL]
theorem firstR_chunk {n d r : Bs} (hn : nameB n = true) (hd : d.length ≤ 65535) : firstR (chunkS n d ++ r) = r := by
  rw [firstR_ok (firstF_chunk hn hd), firstN_chunk hn hd, ← chunkS_len (d := d) hn, List.drop_left]
/-! ### what is spoilt is found -/
theorem set_getD_ne (l : Bs) (k j : Nat) (c : UInt8) (h : k ≠ j) : (l.set k c).getD j 0 = l.getD j 0 := by
  simp only [List.getD_eq_getElem?_getD]; rw [List.getElem?_set_ne h]
theorem set_getD_eq (l : Bs) (k : Nat) (c : UInt8) (h : k < l.length) : (l.set k c).getD k 0 = c := by
  simp only [List.getD_eq_getElem?_getD]; rw [List.getElem?_set_self h]; rfl
theorem spoilt {n d : Bs} {k : Nat} {c : UInt8} (hn : nameB n = true) (hd : d.length ≤ 65535) (h6 : 6 ≤ k) (hk : k < 8 + d.length)
    (hne : c.toNat % 251 ≠ ((chunkS n d).getD k 0).toNat % 251) : firstF ((chunkS n d).set k c) = 6 := by
  have hl := chunkS_len (d := d) hn
  have hs := sumL_lt (bodyL n d)
  have hbl := bodyL_len (d := d) hn
  have g4 := take4_chunk (r := []) (d := d) hn
  have gN := firstN_chunk (r := []) hn hd
  have gt := take_body (r := []) (d := d) hn
  have gs := getD_sum (r := []) (d := d) hn
  rw [List.append_nil] at g4 gN gt gs
  have hN : firstN ((chunkS n d).set k c) = d.length := by
    unfold firstN at gN ⊢
    rw [set_getD_ne _ _ _ _ (by omega), set_getD_ne _ _ _ _ (by omega)]; exact gN
  have ht4 : ((chunkS n d).set k c).take 4 = n := by rw [List.take_set_of_le (by omega)]; exact g4
  have hsz : ((chunkS n d).set k c).length = 8 + d.length := by rw [List.length_set]; exact hl
  apply firstF_sum
  · omega
  · rw [ht4]; exact hn
  · omega
  · rw [hN]
    by_cases hkd : k < 6 + d.length
    · left
      rw [set_getD_ne _ _ _ _ (by omega), gs.1, ofNat_lt (by omega)]
      have e : ((chunkS n d).set k c).take (6 + d.length) = (bodyL n d).set k c := by rw [List.take_set, gt]
      rw [e]
      apply sum_spoilt _ _ _ (by omega)
      intro h
      apply hne
      rw [h]
      have : (chunkS n d).getD k 0 = (bodyL n d)[k]'(by omega) := by
        simp only [List.getD_eq_getElem?_getD, chunkS]
        rw [List.getElem?_append_left (by omega), List.getElem?_eq_getElem (by omega)]; rfl
      rw [this]
    · have e : ((chunkS n d).set k c).take (6 + d.length) = bodyL n d := by rw [List.take_set_of_le (by omega)]; exact gt
      rw [e]
      by_cases hk6 : k = 6 + d.length
      · left
        subst hk6
        rw [set_getD_eq _ _ _ (by omega)]
        rw [gs.1, ofNat_lt (by omega)] at hne
        intro h
        apply hne
        rw [← h]
      · right
        obtain rfl : k = 7 + d.length := by omega
        rw [set_getD_eq _ _ _ (by omega)]
        rw [gs.2, ofNat_lt (by omega)] at hne
        intro h
        apply hne
        rw [← h]
/-! ## all chunks -/
def allGo (most : Int) : Nat → Bs → List (Bs × Bs) → List (Bs × Bs) × Nat
  | 0, _, acc => (acc, 0)
  | n + 1, L, acc => if L = [] then (acc, 0) else if (acc.length : Int) = most then ([], 2) else if firstF L = 0 then allGo most n (firstR L) (acc ++ [(firstA L, firstD L)]) else ([], firstF L)
def allL (L : Bs) (most : Int) : List (Bs × Bs) × Nat := allGo most L.length L []
theorem allGo_more (most : Int) : ∀ (n m : Nat) (L : Bs) (acc : List (Bs × Bs)), L.length ≤ n → L.length ≤ m → allGo most n L acc = allGo most m L acc := by
  intro n
  induction n with
  | zero =>
    intro m L acc h1 h2
    have : L = [] := List.eq_nil_of_length_eq_zero (by omega)
    subst this
    cases m <;> simp [allGo]
  | succ n ih =>
    intro m L acc h1 h2
    cases m with
    | zero =>
      have : L = [] := List.eq_nil_of_length_eq_zero (by omega)
      subst this
      simp [allGo]
    | succ m =>
      unfold allGo
      by_cases h : L = []
      · simp [h]
      · rw [if_neg h, if_neg h]
        by_cases hm : (acc.length : Int) = most
        · rw [if_pos hm, if_pos hm]
        · rw [if_neg hm, if_neg hm]
          by_cases hf : firstF L = 0
          · rw [if_pos hf, if_pos hf]
            have := firstR_len hf
            exact ih _ _ _ (by omega) (by omega)
          · rw [if_neg hf, if_neg hf]
/-- after some rounds -/
def AllInv (S : Bs) (most : Int) (L : Bs) (acc : List (Bs × Bs)) : Prop := allL S most = allGo most L.length L acc
theorem AllInv.start (S : Bs) (most : Int) : AllInv S most S [] := rfl
theorem AllInv.done {S L : Bs} {most : Int} {acc : List (Bs × Bs)} (h : AllInv S most L acc) (hL : L = []) : allL S most = (acc, 0) := by rw [h, hL]; rfl
theorem cons_len {L : Bs} (h : L ≠ []) : ∃ n, L.length = n + 1 := by
  cases L with
  | nil => exact absurd rfl h
  | cons a l => exact ⟨l.length, rfl⟩
theorem AllInv.many {S L : Bs} {most : Int} {acc : List (Bs × Bs)} (h : AllInv S most L acc) (hL : L ≠ []) (hm : (acc.length : Int) = most) : allL S most = ([], 2) := by
  obtain ⟨n, hn⟩ := cons_len hL
  rw [h, hn]; unfold allGo; rw [if_neg hL, if_pos hm]
theorem AllInv.bad {S L : Bs} {most : Int} {acc : List (Bs × Bs)} (h : AllInv S most L acc) (hL : L ≠ []) (hm : (acc.length : Int) ≠ most) (hf : firstF L ≠ 0) : allL S most = ([], firstF L) := by
  obtain ⟨n, hn⟩ := cons_len hL
  rw [h, hn]; unfold allGo; rw [if_neg hL, if_neg hm, if_neg hf]
theorem AllInv.step {S L : Bs} {most : Int} {acc : List (Bs × Bs)} (h : AllInv S most L acc) (hL : L ≠ []) (hm : (acc.length : Int) ≠ most) (hf : firstF L = 0) : AllInv S most (firstR L) (acc ++ [(firstA L, firstD L)]) := by
  obtain ⟨n, hn⟩ := cons_len hL
  unfold AllInv
  rw [h, hn]
  have := firstR_len hf
  conv => lhs; unfold allGo
  rw [if_neg hL, if_neg hm, if_pos hf]
  exact allGo_more _ _ _ _ _ (by omega) (by omega)
theorem allGo_pre (most : Int) : ∀ (n : Nat) (L : Bs) (acc : List (Bs × Bs)), (allGo most n L acc).2 = 0 → ∃ r, (allGo most n L acc).1 = acc ++ r := by
  intro n
  induction n with
  | zero => intro L acc _; exact ⟨[], by simp [allGo]⟩
  | succ n ih =>
    intro L acc h
    unfold allGo at h ⊢
    by_cases hL : L = []
    · simp only [if_pos hL] at h ⊢; exact ⟨[], by simp⟩
    · simp only [if_neg hL] at h ⊢
      by_cases hm : (acc.length : Int) = most
      · simp only [if_pos hm] at h; omega
      · simp only [if_neg hm] at h ⊢
        by_cases hf : firstF L = 0
        · simp only [if_pos hf] at h ⊢
          obtain ⟨r, hr⟩ := ih _ _ h
          exact ⟨(firstA L, firstD L) :: r, by rw [hr]; simp⟩
        · simp only [if_neg hf] at h; omega
theorem AllInv.pre {S L : Bs} {most : Int} {acc : List (Bs × Bs)} (h : AllInv S most L acc) (h0 : (allL S most).2 = 0) : ∃ r, (allL S most).1 = acc ++ r := by
  rw [h] at h0 ⊢; exact allGo_pre _ _ _ _ h0
theorem allGo_le (most : Int) : ∀ (n : Nat) (L : Bs) (acc : List (Bs × Bs)), (allGo most n L acc).2 ≤ 8 ∧ ((allGo most n L acc).2 ≠ 0 → (allGo most n L acc).1 = []) := by
  intro n
  induction n with
  | zero => intro L acc; simp [allGo]
  | succ n ih =>
    intro L acc
    have := firstF_le L
    unfold allGo
    split
    · simp
    · split
      · simp
      · split
        · exact ih _ _
        · exact ⟨this, fun _ => rfl⟩
theorem allL_le (S : Bs) (most : Int) : (allL S most).2 ≤ 8 ∧ ((allL S most).2 ≠ 0 → (allL S most).1 = []) := allGo_le _ _ _ _
theorem allGo_len (most : Int) : ∀ (n : Nat) (L : Bs) (acc : List (Bs × Bs)), (allGo most n L acc).1.length ≤ acc.length + n := by
  intro n
  induction n with
  | zero => intro L acc; simp [allGo]
  | succ n ih =>
    intro L acc
    unfold allGo
    split
    · simp
    · split
      · simp
      · split
        · refine Nat.le_trans (ih _ _) ?_; simp; omega
        · simp
/-- chunks one behind the other -/
def catL (l : List (Bs × Bs)) : Bs := l.flatMap fun p => chunkS p.1 p.2
def FineL (l : List (Bs × Bs)) : Prop := ∀ p ∈ l, nameB p.1 = true ∧ p.2.length ≤ 65535
theorem all_cat (most : Int) (S : Bs) : ∀ (l acc : List (Bs × Bs)), FineL l → AllInv S most (catL l) acc → (acc.length + l.length : Int) ≤ most → allL S most = (acc ++ l, 0)
  | [], acc, _, h, _ => by rw [h.done rfl]; simp
  | p :: l, acc, hf, h, hm => by
    obtain ⟨h1, h2⟩ := hf p (by simp)
    have hne : catL (p :: l) ≠ [] := by
      intro e
      have := congrArg List.length e
      simp [catL, chunkS_len h1] at this
    have e : catL (p :: l) = chunkS p.1 p.2 ++ catL l := rfl
    have hs := h.step hne (by simp at hm; omega) (by rw [e]; exact firstF_chunk h1 h2)
    rw [e, firstR_chunk h1 h2, firstA_chunk h1 h2, firstD_chunk h1 h2] at hs
    rw [all_cat most S l _ (fun q hq => hf q (by simp [hq])) hs (by simp at hm ⊢; omega)]
    simp
theorem all_cat_less (most : Int) (S : Bs) : ∀ (l acc : List (Bs × Bs)), FineL l → AllInv S most (catL l) acc → (acc.length : Int) ≤ most → most < (acc.length + l.length : Int) → allL S most = ([], 2)
  | [], acc, _, h, h1, h2 => by simp at h2; omega
  | p :: l, acc, hf, h, hm, hm2 => by
    obtain ⟨h1, h2⟩ := hf p (by simp)
    have hne : catL (p :: l) ≠ [] := by
      intro e
      have := congrArg List.length e
      simp [catL, chunkS_len h1] at this
    by_cases hz : (acc.length : Int) = most
    · exact h.many hne hz
    · have e : catL (p :: l) = chunkS p.1 p.2 ++ catL l := rfl
      have hs := h.step hne hz (by rw [e]; exact firstF_chunk h1 h2)
      rw [e, firstR_chunk h1 h2, firstA_chunk h1 h2, firstD_chunk h1 h2] at hs
      exact all_cat_less most S l _ (fun q hq => hf q (by simp [hq])) hs (by simp; omega) (by simp at hm2 ⊢; omega)
theorem catL_snoc (l : List (Bs × Bs)) (p : Bs × Bs) : catL (l ++ [p]) = catL l ++ chunkS p.1 p.2 := by simp [catL]
end Fb
namespace Fb
open Go Go.Proofs Go.RowKit
theorem bs_len (s : ByteArray) : s.data.toList.length = s.size := by simp
theorem sum_takeB (s : ByteArray) (k : Nat) (h : k < s.size) : (sumL (s.data.toList.take (k + 1))).1 = ((sumL (s.data.toList.take k)).1 + s[k].toNat) % 251 ∧ (sumL (s.data.toList.take (k + 1))).2 = ((sumL (s.data.toList.take k)).2 + ((sumL (s.data.toList.take k)).1 + s[k].toNat) % 251) % 251 :=
  sumL_take s.data.toList k (by simpa using h)
def sumV (s : Bs) : Value := .tuple #[.int .i64 (sumL s).1, .int .i64 (sumL s).2]
theorem ret_eq' {a b : Value} (h : b = a) : Ending.returned a = .returned b := by rw [h]
set_option maxRecDepth 100000 in
set_option maxHeartbeats 400000 in
theorem sum_any (s : ByteArray) (w : World) (hs : s.size ≤ maxLen) :
    Calls Tryd.prog 25 #[.string s] w (Ret (sumV s.data.toList) w) := by
  unfold maxLen at hs
  have Hsz := hid (bs_len s)
  go_enter Tryd.func25, Tryd.ntmps25
  go_wp2
  go_loop [2, 3, 7] (fun a b i => ∃ k : Nat, k ≤ s.size ∧ i = .int .i64 k ∧ a = .int .i64 (sumL (s.data.toList.take k)).1 ∧ b = .int .i64 (sumL (s.data.toList.take k)).2) (fun _ _ i => s.size - (intOf i).toNat)
  case atStart => exact ⟨0, by omega, rfl, rfl, rfl⟩
  case round =>
    obtain ⟨k, hk, rfl, rfl, rfl⟩ := hrel
    have hlt := sumL_lt (s.data.toList.take k)
    by_cases hk' : k < s.size
    · have hst := hid (sum_takeB s k hk')
      have hn := UInt8.toNat_lt s[k]
      generalize hA : (sumL (s.data.toList.take k)).1 = a at *
      generalize hB : (sumL (s.data.toList.take k)).2 = b at *
      clear hA hB
      go_wp2
      go_round
      case rel =>
        refine ⟨k + 1, by omega, by go_num, ?_, ?_⟩
        · rw [hst.out.1]; simp
        · rw [hst.out.2]; simp [Int.add_assoc]
      case measure => simp [intOf]; omega
    · obtain rfl : k = s.size := by omega
      have he : s.data.toList.take s.size = s.data.toList := List.take_of_length_le (by rw [Hsz.out]; omega)
      have hV : sumV s.data.toList = .tuple #[.int .i64 (sumL (s.data.toList.take s.size)).1, .int .i64 (sumL (s.data.toList.take s.size)).2] := by unfold sumV; rw [he]
      have HV := hid hV
      clear he hV
      go_wp2
      go_ret2
      exact ⟨ret_eq' HV.out, Below.refl _ _⟩
set_option maxRecDepth 100000 in
set_option maxHeartbeats 400000 in
theorem name_any (s : ByteArray) (w : World) (hs : s.size ≤ maxLen) :
    Calls Tryd.prog 24 #[.string s] w (Ret (.bool (nameB s.data.toList)) w) := by
  unfold maxLen at hs
  have Hsz := hid (bs_len s)
  go_enter Tryd.func24, Tryd.ntmps24
  go_wp2
  go_loop [6] (fun i => ∃ k : Nat, k ≤ s.size ∧ i = .int .i64 k ∧ (s.data.toList.take k).all capB = true) (fun i => s.size - (intOf i).toNat)
  case atStart => exact ⟨0, by omega, rfl, rfl⟩
  case round =>
    obtain ⟨k, hk, rfl, ha⟩ := hrel
    have Ha := hid ha
    clear ha
    by_cases hk' : k < s.size
    · have hk2 : k < s.data.toList.length := by rw [Hsz.out]; exact hk'
      by_cases h1 : (s[k]).toNat < 65
      · have hr := hid (nameB_bad hk2 (capB_low h1))
        have h1' : ((s[k]).toNat : Int) < 65 := by omega
        clear h1
        go_wp2
        go_ret
        exact ⟨ret_bool hr.out.symm, Below.refl _ _⟩
      by_cases h2 : 90 < (s[k]).toNat
      · have hr := hid (nameB_bad hk2 (capB_high h2))
        have h1' : ¬ ((s[k]).toNat : Int) < 65 := by omega
        have h2' : (90 : Int) < ((s[k]).toNat : Int) := by omega
        clear h1 h2
        go_wp2
        go_ret
        exact ⟨ret_bool hr.out.symm, Below.refl _ _⟩
      · have hr := hid (all_take hk2 Ha.out (capB_ok (c := s[k]) (by omega) (by omega)))
        have h1' : ¬ ((s[k]).toNat : Int) < 65 := by omega
        have h2' : ¬ (90 : Int) < ((s[k]).toNat : Int) := by omega
        clear h1 h2
        go_wp2
        go_round
        case rel => exact ⟨k + 1, by omega, by go_num, hr.out⟩
        case measure => simp [intOf]; omega
    · obtain rfl : k = s.size := by omega
      have he : s.data.toList.take s.size = s.data.toList := List.take_of_length_le (by rw [Hsz.out]; omega)
      rw [he] at Ha
      have hr := hid (nameB_done Ha.out)
      clear he
      go_wp2
      go_ret
      refine ⟨ret_bool ?_, Below.refl _ _⟩
      rw [hr.out, Hsz.out, Bool.eq_iff_iff]
      simp
      try omega
end Fb

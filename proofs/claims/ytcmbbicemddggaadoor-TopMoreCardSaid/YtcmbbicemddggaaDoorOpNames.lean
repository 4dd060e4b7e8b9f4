/- Ops as chunks, in plain Lean: an op's name and bytes, and back. Conditions: those of each lemma. The names of ops' chunks as the program holds them, and slices.Index on them. Condition: the variable holds them. -/
import Derived.Test.YtcmbbicemddggaaDoorPlainB
import Derived.Test.YtcmbbicemddggaaDoorPicLaw3
import Derived.Test.YtcmbbicemddggaaDoorPlainA
import Derived.Test.YtcmbbicemddggaaDoorChunkBytes
import Derived.RegionTactic
import Derived.BigRegion
import Derived.LaidMore
import Derived.SliceStrings
import Derived.LaidLaws
import Derived.LaidHandle
set_option linter.unusedSimpArgs false
set_option linter.unusedVariables false
namespace Fb
def opNames : List (List UInt8) := [[], [72, 69, 65, 68], [80, 73, 67, 84], [77, 79, 86, 69], [67, 76, 73, 80], [83, 72, 79, 87], [67, 79, 80, 89], [68, 82, 79, 80], [80, 65, 68, 68], [80, 80, 85, 84], [66, 65, 67, 75], [87, 65, 73, 84], [76, 79, 79, 80], [78, 69, 88, 84], [83, 65, 86, 69], [83, 69, 69, 75], [69, 78, 68, 83]]
def opName (k : Int) : List UInt8 := opNames.getD k.toNat []
def numB (n : Int) : List UInt8 := [UInt8.ofNat ((n + 128) % 256).toNat, UInt8.ofNat ((n + 128) / 256 % 256).toNat]
def headB (o : FOp) : List UInt8 := if hasId o.kind then [UInt8.ofNat (o.id % 256).toNat] else []
def numsB (o : FOp) : List UInt8 := ((opNums o).take (manyN o.kind)).flatMap numB
def tailB (o : FOp) : List UInt8 := if hasPic o.kind then picBytes o.pic else []
def opData (o : FOp) : List UInt8 := headB o ++ numsB o ++ tailB o
def numAt (s : List UInt8) (a i : Nat) : Int := ((s.getD (a + 2 * i) 0).toNat : Int) + 256 * ((s.getD (a + 2 * i + 1) 0).toNat : Int) - 128
def kindOf (name : List UInt8) : Nat := (opNames.findIdx? (fun x => decide (x = name))).getD 0
def headN (k : Int) : Nat := if hasId k then 1 else 0
def opRead (k : Int) (s : List UInt8) : FOp :=
  ⟨k, if hasId k then ((s.getD 0 0).toNat : Int) else 0, if 0 < manyN k then numAt s (headN k) 0 else 0, if 1 < manyN k then numAt s (headN k) 1 else 0, if 2 < manyN k then numAt s (headN k) 2 else 0, if 3 < manyN k then numAt s (headN k) 3 else 0, ⟨0, 0, []⟩⟩
def opEnd (o : FOp) : FOp × Nat := if opFault o = 0 then (o, 0) else (noOp, opFault o)
def opOf (name s : List UInt8) : FOp × Nat :=
  if kindOf name = 0 then (noOp, 5)
  else if s.length < headN (kindOf name) + 2 * manyN (kindOf name) ∨ (hasPic (kindOf name) = false ∧ headN (kindOf name) + 2 * manyN (kindOf name) < s.length) then (noOp, 4)
  else if hasPic (kindOf name) then
    (if (picOf (s.drop (headN (kindOf name) + 2 * manyN (kindOf name)))).2 = 0 then opEnd { opRead (kindOf name) s with pic := (picOf (s.drop (headN (kindOf name) + 2 * manyN (kindOf name)))).1 }
     else (noOp, (picOf (s.drop (headN (kindOf name) + 2 * manyN (kindOf name)))).2))
  else opEnd (opRead (kindOf name) s)
theorem num_back {n : Int} (h1 : -128 ≤ n) (h2 : n ≤ 65407) : (((UInt8.ofNat ((n + 128) % 256).toNat).toNat : Nat) : Int) + 256 * (((UInt8.ofNat ((n + 128) / 256 % 256).toNat).toNat : Nat) : Int) - 128 = n := by
  rw [UInt8.toNat_ofNat', UInt8.toNat_ofNat']
  omega
theorem id_back {n : Int} (h1 : 1 ≤ n) (h2 : n ≤ 6) : (((UInt8.ofNat (n % 256).toNat).toNat : Nat) : Int) = n := by
  rw [UInt8.toNat_ofNat']
  omega
theorem kindOf_name (k : Nat) (h1 : 1 ≤ k) (h2 : k ≤ 16) : kindOf (opName k) = k := by
  rcases (show k = 1 ∨ k = 2 ∨ k = 3 ∨ k = 4 ∨ k = 5 ∨ k = 6 ∨ k = 7 ∨ k = 8 ∨ k = 9 ∨ k = 10 ∨ k = 11 ∨ k = 12 ∨ k = 13 ∨ k = 14 ∨ k = 15 ∨ k = 16 by omega) with rfl | rfl | rfl | rfl | rfl | rfl | rfl | rfl | rfl | rfl | rfl | rfl | rfl | rfl | rfl | rfl <;> decide
theorem inB_iff {n a b : Int} : inB n a b = true ↔ a ≤ n ∧ n ≤ b := by unfold inB; simp
theorem low_ge (k : Int) (j : Nat) : -20 ≤ (lows k).getD j 0 := by
  have h : ∀ l : List Int, (∀ x ∈ l, -20 ≤ x) → -20 ≤ l.getD j 0 := by
    intro l hl
    rw [List.getD_eq_getElem?_getD]
    cases hh : l[j]? with
    | none => simp
    | some x => exact hl x (List.mem_of_getElem? hh)
  refine h _ ?_
  unfold lows
  (repeat' split) <;> simp
theorem high_le (k : Int) (j : Nat) : (highs k).getD j 0 ≤ 255 := by
  have h : ∀ l : List Int, (∀ x ∈ l, x ≤ 255) → l.getD j 0 ≤ 255 := by
    intro l hl
    rw [List.getD_eq_getElem?_getD]
    cases hh : l[j]? with
    | none => simp
    | some x => exact hl x (List.mem_of_getElem? hh)
  refine h _ ?_
  unfold highs
  (repeat' split) <;> simp
/-- the numbers of an op that may be -/
theorem op_nums {o : FOp} (h : opFault o = 0) : (0 < manyN o.kind → -20 ≤ o.a ∧ o.a ≤ 255) ∧ (1 < manyN o.kind → -20 ≤ o.b ∧ o.b ≤ 255) ∧ (2 < manyN o.kind → -20 ≤ o.c ∧ o.c ≤ 255) ∧ (3 < manyN o.kind → -20 ≤ o.d ∧ o.d ≤ 255) := by
  obtain ⟨hk, -, -, hb, -⟩ := opFault_fine h
  obtain ⟨k0, k1, k2, k3⟩ := (all_four (manyN_le _)).1 ((boundB_iff hk.1 hk.2).1 hb)
  unfold inJ at k0 k1 k2 k3
  have l := low_ge o.kind; have u := high_le o.kind
  refine ⟨fun h => ?_, fun h => ?_, fun h => ?_, fun h => ?_⟩
  · obtain ⟨x, y⟩ := k0 h; simp only [opNums, List.getD_cons_zero] at x y; have := l 0; have := u 0; omega
  · obtain ⟨x, y⟩ := k1 h; simp only [opNums, List.getD_cons_zero, List.getD_cons_succ] at x y; have := l 1; have := u 1; omega
  · obtain ⟨x, y⟩ := k2 h; simp only [opNums, List.getD_cons_zero, List.getD_cons_succ] at x y; have := l 2; have := u 2; omega
  · obtain ⟨x, y⟩ := k3 h; simp only [opNums, List.getD_cons_zero, List.getD_cons_succ] at x y; have := l 3; have := u 3; omega
theorem headB_len (o : FOp) : (headB o).length = headN o.kind := by unfold headB headN; split <;> rfl
theorem flat_numB (l : List Int) : (l.flatMap numB).length = 2 * l.length := by
  induction l with
  | nil => rfl
  | cons x l ih => rw [List.flatMap_cons, List.length_append, ih]; simp [numB]; omega
theorem numsB_len (o : FOp) : (numsB o).length = 2 * manyN o.kind := by
  unfold numsB
  rw [flat_numB, List.length_take]
  have := manyN_le o.kind
  simp [opNums]; omega
theorem front_len (o : FOp) : (headB o ++ numsB o).length = headN o.kind + 2 * manyN o.kind := by rw [List.length_append, headB_len, numsB_len]
theorem data_drop (o : FOp) : (opData o).drop (headN o.kind + 2 * manyN o.kind) = tailB o := by
  unfold opData
  rw [← front_len, List.drop_left]
theorem data_len (o : FOp) : (opData o).length = headN o.kind + 2 * manyN o.kind + (tailB o).length := by
  unfold opData
  rw [List.length_append, front_len]
theorem flatB_at : ∀ (l : List Int) (i : Nat) (h : i < l.length), (l.flatMap numB).getD (2 * i) 0 = UInt8.ofNat ((l[i] + 128) % 256).toNat ∧ (l.flatMap numB).getD (2 * i + 1) 0 = UInt8.ofNat ((l[i] + 128) / 256 % 256).toNat
  | x :: l, 0, _ => by simp [numB]
  | x :: l, i + 1, h => by
    have := flatB_at l i (by simpa using h)
    rw [show 2 * (i + 1) = 2 * i + 1 + 1 by omega]
    simpa [numB] using this
theorem getD_pre {l r : List UInt8} {n i : Nat} (h : l.length = n) : (l ++ r).getD (n + i) 0 = r.getD i 0 := by
  subst h
  rw [List.getD_eq_getElem?_getD, List.getD_eq_getElem?_getD, List.getElem?_append_right (by omega), Nat.add_sub_cancel_left]
theorem getD_in {l r : List UInt8} {i : Nat} (h : i < l.length) : (l ++ r).getD i 0 = l.getD i 0 := by
  rw [List.getD_eq_getElem?_getD, List.getD_eq_getElem?_getD, List.getElem?_append_left h]
/-- number i is read back -/
theorem numAt_back {o : FOp} {i : Nat} (h : i < manyN o.kind) (hb : -20 ≤ (opNums o).getD i 0 ∧ (opNums o).getD i 0 ≤ 255) : numAt (opData o) (headN o.kind) i = (opNums o).getD i 0 := by
  have hm := manyN_le o.kind
  have hi4 : i < (opNums o).length := by simp [opNums]; omega
  have hi : i < ((opNums o).take (manyN o.kind)).length := by rw [List.length_take]; omega
  have e : ((opNums o).take (manyN o.kind))[i] = (opNums o).getD i 0 := by rw [List.getElem_take, List.getD_eq_getElem?_getD, List.getElem?_eq_getElem hi4]; rfl
  have hl := numsB_len o
  unfold numAt opData
  rw [List.append_assoc, show headN o.kind + 2 * i + 1 = headN o.kind + (2 * i + 1) by omega, getD_pre (headB_len o), getD_pre (headB_len o), getD_in (by omega), getD_in (by omega)]
  obtain ⟨h1, h2⟩ := flatB_at _ i hi
  unfold numsB
  rw [h1, h2, e]
  exact num_back (by omega) (by omega)
theorem nz_drop {o : FOp} (h : ((opNums o).drop (manyN o.kind)).all (fun n => decide (n = 0)) = true) : (¬ 0 < manyN o.kind → o.a = 0) ∧ (¬ 1 < manyN o.kind → o.b = 0) ∧ (¬ 2 < manyN o.kind → o.c = 0) ∧ (¬ 3 < manyN o.kind → o.d = 0) := by
  have hm := manyN_le o.kind
  have g : ∀ j (hj : j < 4), ¬ j < manyN o.kind → (opNums o).getD j 0 = 0 := by
    intro j hj hn
    have hj' : j < (opNums o).length := by simp [opNums]; omega
    rw [List.all_eq_true] at h
    have := h ((opNums o)[j]) (by
      rw [List.mem_iff_getElem]
      exact ⟨j - manyN o.kind, by rw [List.length_drop]; omega, by rw [List.getElem_drop]; congr 1; omega⟩)
    rw [List.getD_eq_getElem?_getD, List.getElem?_eq_getElem hj']
    simpa using this
  exact ⟨g 0 (by omega), g 1 (by omega), g 2 (by omega), g 3 (by omega)⟩
theorem opRead_back {o : FOp} (h : opFault o = 0) : opRead o.kind (opData o) = { o with pic := ⟨0, 0, []⟩ } := by
  obtain ⟨hk, hs, hi, hb, hp⟩ := opFault_fine h
  obtain ⟨n0, n1, n2, n3⟩ := op_nums h
  unfold shapeB at hs
  simp only [Bool.and_eq_true, Bool.or_eq_true, decide_eq_true_eq] at hs
  obtain ⟨s1, s2, s3⟩ := hs
  obtain ⟨z0, z1, z2, z3⟩ := nz_drop s2
  unfold opRead
  have eid : (if hasId o.kind = true then (((opData o).getD 0 0).toNat : Int) else 0) = o.id := by
    by_cases hh : hasId o.kind = true
    · rw [if_pos hh]
      have : (opData o).getD 0 0 = UInt8.ofNat (o.id % 256).toNat := by unfold opData headB; rw [if_pos hh]; rfl
      rw [this, id_back (hi hh).1 (hi hh).2]
    · rw [if_neg hh]; rcases s1 with s1 | s1
      · exact absurd s1 hh
      · exact s1.symm
  have ea : (if 0 < manyN o.kind then numAt (opData o) (headN o.kind) 0 else 0) = o.a := by
    split
    · rename_i hh; exact numAt_back hh (n0 hh)
    · rename_i hh; exact (z0 hh).symm
  have eb : (if 1 < manyN o.kind then numAt (opData o) (headN o.kind) 1 else 0) = o.b := by
    split
    · rename_i hh; exact numAt_back hh (n1 hh)
    · rename_i hh; exact (z1 hh).symm
  have ec : (if 2 < manyN o.kind then numAt (opData o) (headN o.kind) 2 else 0) = o.c := by
    split
    · rename_i hh; exact numAt_back hh (n2 hh)
    · rename_i hh; exact (z2 hh).symm
  have ed : (if 3 < manyN o.kind then numAt (opData o) (headN o.kind) 3 else 0) = o.d := by
    split
    · rename_i hh; exact numAt_back hh (n3 hh)
    · rename_i hh; exact (z3 hh).symm
  rw [eid, ea, eb, ec, ed]
/-- an op's chunk is read as it -/
theorem op_back {o : FOp} (h : opFault o = 0) : opOf (opName o.kind) (opData o) = (o, 0) := by
  have hr := opRead_back h
  have hd := data_drop o
  have hl := data_len o
  obtain ⟨hk, hs, hi, hb, hp⟩ := opFault_fine h
  have he : opEnd o = (o, 0) := by unfold opEnd; rw [if_pos h]
  have hko : (o.kind.toNat : Int) = o.kind := by omega
  have hkk : kindOf (opName o.kind) = o.kind.toNat := by
    have := kindOf_name o.kind.toNat (by omega) (by omega)
    rwa [hko] at this
  unfold opOf
  rw [hkk, hko, hd, hr, if_neg (by omega)]
  by_cases hh : hasPic o.kind = true
  · have ht : tailB o = picBytes o.pic := by unfold tailB; rw [if_pos hh]
    rw [if_neg (by rw [hh]; simp; omega), if_pos hh, ht, pic_back (picFault_fine.1 (hp hh)), if_pos rfl]
    exact he
  · have hh' : hasPic o.kind = false := by simpa using hh
    have ht : tailB o = [] := by unfold tailB; rw [if_neg hh]
    rw [ht] at hl
    simp only [List.length_nil] at hl
    rw [if_neg (by omega), if_neg hh]
    unfold shapeB at hs
    simp only [Bool.and_eq_true, Bool.or_eq_true, decide_eq_true_eq] at hs
    have hpe : o.pic = ⟨0, 0, []⟩ := by
      have h3 := hs.2.2
      rw [hh'] at h3
      simp [picEmpty] at h3
      obtain ⟨w1, w2, w3⟩ := h3
      cases hop : o.pic
      simp_all
    rw [show ({ o with pic := ⟨0, 0, []⟩ } : FOp) = o by cases o; simp_all]
    exact he
end Fb
namespace Fb
open Go Go.Proofs Go.RowKit Go.Sort
def nameS : List ByteArray := opNames.map strOf
theorem nameS_len : nameS.length = 17 := rfl
/-- the variable g holds the names -/
def NamesAt (g : Nat) (w : World) : Prop := ∃ b off c, w.cell? ⟨g, 0, none⟩ = some (.slice (some ⟨b, off, none⟩) 17 c) ∧ g < w.heap.size ∧ b < w.heap.size ∧ ∀ k (h : k < nameS.length), w.cell? ⟨b, off + k, none⟩ = some (.string nameS[k])
theorem NamesAt.below {g : Nat} {w w' : World} (h : NamesAt g w) (hb : Below w.heap.size w w') : NamesAt g w' := by
  obtain ⟨b, off, c, h1, h2, h3, h4⟩ := h
  exact ⟨b, off, c, (hb.cell (p := ⟨g, 0, none⟩) h2).trans h1, Nat.lt_of_lt_of_le h2 hb.size, Nat.lt_of_lt_of_le h3 hb.size, fun k hk => (hb.cell (p := ⟨b, off + k, none⟩) h3).trans (h4 k hk)⟩
theorem namesAt_of {g t e : Nat} {w : World} {fuel : Nat} {cs : Array Value} {p : List MemPlace} {H : Type} {enc : TypeId × Value → H} {sp : Nat → Bool} (hsp : ∀ b, sp b = true) {held : Bool} {name : String} (hg : Tryd.prog.globalNamed name = some g) (ht : Tryd.prog.underlying t = some (.slice e)) (he : Tryd.prog.underlying e = some .string) (hc : Tryd.prog.cellsOf e = 1)
    (hv : w.var? Tryd.prog name = some cs) (h : DataW.trod enc Tryd.prog w 0 sp held fuel t cs.toList = some (.slice (opNames.map fun s => .lit (.string s)) [], p)) : NamesAt g w := by
  rcases Go.ChangeShapes.open_strings ht he hc h with ⟨_, hx⟩ | ⟨a, len, cap, ss, hcs, _, hl, hm, hlen, hx, hcell, hs⟩
  · simp at hx
  rw [if_pos (hsp _)] at hlen
  simp only [Prod.mk.injEq, DataW.slice.injEq, Go.ChangeShapes.strs] at hx
  obtain ⟨⟨h1, h2⟩, -⟩ := hx
  have hd : ss.drop len = [] := List.map_eq_nil_iff.1 h2.symm
  have hl2 : ss.length ≤ len := List.drop_eq_nil_iff.1 hd
  rw [List.take_of_length_le hl2] at h1
  have e1 : opNames = ss.map fun s => s.data.toList := by
    have h3 := congrArg (List.map fun d : DataW H => match d with | .lit (.string b) => b | _ => []) h1
    rw [List.map_map, List.map_map] at h3
    have e0 : opNames.map ((fun d : DataW H => match d with | .lit (.string b) => b | _ => []) ∘ fun s => .lit (.string s)) = opNames.map id := List.map_congr_left (fun x _ => rfl)
    rw [e0, List.map_id] at h3
    rw [h3]
    exact List.map_congr_left (fun x _ => rfl)
  have e2 : nameS = ss := by
    unfold nameS
    rw [e1, List.map_map]
    have e0 : ss.map (strOf ∘ fun s => s.data.toList) = ss.map id := List.map_congr_left (fun x _ => by
      show strOf x.data.toList = x
      unfold strOf
      simp)
    rw [e0, List.map_id]
  have h17 : ss.length = 17 := by rw [← e2]; rfl
  obtain rfl : len = 17 := by omega
  obtain rfl : cap = 17 := by omega
  have hc0 := hcell 0 (by omega)
  have e3 : a.add 0 = a := by simp [Addr.add]
  have hspot : a.spot = none := by
    have := World.cell?_spot hc0
    rwa [e3] at this
  obtain ⟨b, off, spt⟩ := a
  simp only at hspot
  subst hspot
  have ha : ∀ k, (⟨b, off, none⟩ : Addr).add k = ⟨b, off + k, none⟩ := by
    intro k
    unfold Addr.add
    by_cases h : k = 0
    · subst h; simp
    · rw [if_neg h]
  have hg0 : w.cell? ⟨g, 0, none⟩ = some (.slice (some ⟨b, off, none⟩) 17 17) := by
    have := World.var?_cell hg hv 0
    rw [Array.eq_one_of_toList hcs] at this
    simpa using this
  refine ⟨b, off, 17, hg0, World.block_lt_of_cell? w _ hg0, ?_, fun k hk => ?_⟩
  · rw [e3] at hc0; exact World.block_lt_of_cell? w _ hc0
  · have hk' : k < ss.length := by rw [← e2]; exact hk
    have h5 := hcell k hk'
    rw [ha, List.getD_eq_getElem?_getD, List.getElem?_eq_getElem hk'] at h5
    simp only [e2]
    exact h5
def idxI (x : List UInt8) : Int := match opNames.findIdx? (fun y => decide (y = x)) with | some i => i | none => -1
theorem idxI_kind {x : List UInt8} : (idxI x < 1 ↔ kindOf x = 0) ∧ (¬ idxI x < 1 → idxI x = kindOf x) := by
  unfold idxI kindOf
  cases opNames.findIdx? (fun y => decide (y = x)) with
  | none => simp
  | some i => simp; omega
theorem nameIdx_hit {x : List UInt8} {k : Nat} (hk : k < opNames.length) (hx : opNames[k] = x) (hb : ∀ j (h : j < opNames.length), j < k → opNames[j] ≠ x) : idxI x = k := by
  have : opNames.findIdx? (fun y => decide (y = x)) = some k := by
    rw [List.findIdx?_eq_some_iff_getElem]
    exact ⟨hk, by simpa using hx, fun j hj => by simpa using hb j (by omega) hj⟩
  unfold idxI
  rw [this]
theorem nameIdx_none {x : List UInt8} (hb : ∀ j (h : j < opNames.length), opNames[j] ≠ x) : idxI x = -1 := by
  have : opNames.findIdx? (fun y => decide (y = x)) = none := by
    rw [List.findIdx?_eq_none_iff]
    intro y hy
    obtain ⟨j, hj, rfl⟩ := List.mem_iff_getElem.1 hy
    simpa using hb j hj
  unfold idxI
  rw [this]
theorem nameS_at {k : Nat} (h : k < nameS.length) (h' : k < opNames.length) : nameS[k] = strOf opNames[k] := by simp [nameS]
theorem nameOf_ne {l x : List UInt8} (h : l ≠ x) : ((strOf x).toList == (strOf l).toList) = false := by
  rw [strOf_list', strOf_list', beq_eq_false_iff_ne]
  exact fun e => h e.symm
set_option maxRecDepth 100000 in
set_option maxHeartbeats 1600000 in
theorem nameIndex_any (b off c : Nat) (X : List UInt8) (w : World) (hc : ∀ k (h : k < nameS.length), w.cell? ⟨b, off + k, none⟩ = some (.string nameS[k])) :
    Calls Tryd.prog 39 #[.slice (some ⟨b, off, none⟩) 17 c, .string (strOf X)] w fun e w' => e = .returned (.int .i64 (idxI X)) ∧ w = w' := by
  have Hc := hid hc
  clear hc
  go_enter Tryd.func39, Tryd.ntmps39
  go_wp2
  go_loop [8] (fun i => ∃ k : Nat, k ≤ 17 ∧ i = .int .i64 k ∧ Hid (∀ j (h : j < opNames.length), j < k → opNames[j] ≠ X)) (fun i => 17 - (intOf i).toNat)
  case atStart => exact ⟨0, by omega, rfl, hid (fun j h hj => absurd hj (by omega))⟩
  case round =>
    obtain ⟨k, hk, rfl, Hb⟩ := hrel
    by_cases hlt : k < 17
    · have c1 := (Hc.out k (show k < nameS.length from hlt)).trans (congrArg (fun y => some (Value.string y)) (nameS_at (show k < nameS.length from hlt) (show k < opNames.length from hlt)))
      have i1 : (0 : Int) ≤ (k : Int) := by omega
      have i2 : (k : Int) < 17 := by omega
      have Hlt := hid hlt
      by_cases he : opNames[k]'(show k < opNames.length from hlt) = X
      · have Hr := hid (nameIdx_hit (show k < opNames.length from hlt) he Hb.out)
        rw [he] at c1
        clear he Hb
        go_wp2_with fail
        go_ret
        exact ⟨by rw [Hr.out]; rfl, rfl⟩
      · have Hn := hid (fun j (h : j < opNames.length) (hj : j < k + 1) => (show opNames[j] ≠ X from by
          by_cases e : j = k
          · subst e; exact he
          · exact Hb.out j h (by omega)))
        have hne := nameOf_ne he
        generalize strOf (opNames[k]'(show k < opNames.length from hlt)) = y at *
        clear he Hb
        go_wp2_with fail
        go_round
        case rel => exact ⟨k + 1, by have := Hlt.out; omega, by go_num, Hn⟩
        case measure => have := Hlt.out; simp [intOf]; omega
    · obtain rfl : k = 17 := by omega
      have Hr := hid (nameIdx_none (fun j hj => Hb.out j hj (show j < 17 from hj)))
      clear Hb
      go_wp2_with fail
      go_ret
      exact ⟨by rw [Hr.out]; rfl, rfl⟩
end Fb

/- Pictures as bytes, in plain Lean: rows of bytes, what is told of a row, the shortest way; and back. Conditions: those of each lemma. -/
import Derived.Test.YtinlmikkggnljaaPackLaw
import Derived.Test.YtinlmikkggnljaaTopPackLaw
import Derived.Test.YtinlmikkggnljaaBlendLaw
namespace Fb
/-- shade and cover of each pixel, one behind the other -/
def flatPx (l : List Px) : List Int := l.flatMap fun p => [p.1, p.2]
theorem flatPx_len (l : List Px) : (flatPx l).length = 2 * l.length := by
  induction l with
  | nil => rfl
  | cons a l ih => simp only [flatPx, List.flatMap_cons, List.length_append, List.length_cons, List.length_nil] at ih ⊢; omega
theorem flatPx_append (a b : List Px) : flatPx (a ++ b) = flatPx a ++ flatPx b := by simp [flatPx]
theorem flatPx_at : ∀ (l : List Px) (k : Nat) (h : k < l.length), (flatPx l)[2 * k]? = some l[k].1 ∧ (flatPx l)[2 * k + 1]? = some l[k].2
  | a :: l, 0, _ => by simp [flatPx]
  | a :: l, k + 1, h => by
    have ih := flatPx_at l k (by simpa using h)
    have e : flatPx (a :: l) = a.1 :: a.2 :: flatPx l := rfl
    rw [e]
    simp only [Nat.mul_add, Nat.mul_one, List.getElem_cons_succ]
    exact ⟨by simpa using ih.1, by simpa using ih.2⟩
/-- row y of a picture of W columns -/
def rowI (W : Nat) (l : List Px) (y : Nat) : List Int := flatPx ((l.drop (y * W)).take W)
/-- place i of a row; 0: it isn't in it -/
def atI (r : List Int) (i : Int) : Int := if i < 0 then 0 else r.getD i.toNat 0
theorem atI_neg {r : List Int} {i : Int} (h : i < 0) : atI r i = 0 := if_pos h
theorem atI_big {r : List Int} {i : Int} (h : (r.length : Int) ≤ i) : atI r i = 0 := by
  unfold atI
  rw [if_neg (by omega), List.getD_eq_getElem?_getD, List.getElem?_eq_none (by omega)]
  rfl
theorem atI_at {r : List Int} {k : Nat} (h : k < r.length) : atI r (k : Int) = r[k] := by
  unfold atI
  rw [if_neg (by omega), Int.toNat_natCast, List.getD_eq_getElem?_getD, List.getElem?_eq_getElem h, Option.getD_some]
/-- what is guessed of a byte, by the one on its left and the one above it -/
def guessI (way : Nat) (left up : Int) : Int := match way with | 1 => left | 2 => up | 3 => (left + up) / 2 | _ => 0
/-- a byte, of whatever number -/
def byteI (n : Int) : UInt8 := UInt8.ofNat (n % 256).toNat
theorem byteI_nat (n : Int) : ((byteI n).toNat : Int) = n % 256 := by
  unfold byteI
  have h1 : 0 ≤ n % 256 := Int.emod_nonneg _ (by omega)
  have h2 : n % 256 < 256 := Int.emod_lt_of_pos _ (by omega)
  rw [UInt8.toNat_ofNat']
  omega
/-- what is told of a row's first k places, in a way -/
def toldI (r up : List Int) (way : Nat) (k : Nat) : List UInt8 := (List.range k).map fun i : Nat => byteI (atI r i - guessI way (atI r ((i : Int) - 2)) (atI up i))
theorem toldI_succ (r up : List Int) (way k : Nat) : toldI r up way (k + 1) = toldI r up way k ++ [byteI (atI r k - guessI way (atI r ((k : Int) - 2)) (atI up k))] := by
  unfold toldI; rw [List.range_succ, List.map_append]; rfl
theorem toldI_len (r up : List Int) (way k : Nat) : (toldI r up way k).length = k := by unfold toldI; simp
/-- the best of the ways 0 .. w, and what is told in it -/
def bestI (r up : List Int) (n : Nat) : Nat → Nat × List UInt8
  | 0 => (0, toldI r up 0 n)
  | w + 1 => if (pack (toldI r up (w + 1) n)).length < (pack (bestI r up n w).2).length then (w + 1, toldI r up (w + 1) n) else bestI r up n w
/-- rows of a picture told, one behind the other: y rows -/
def rowsI (W : Nat) (l : List Px) : Nat → List UInt8
  | 0 => []
  | y + 1 => let up := if y = 0 then [] else rowI W l (y - 1)
    let b := bestI (rowI W l y) up (2 * W) 3
    rowsI W l y ++ (UInt8.ofNat b.1 :: b.2)
/-- a picture's bytes -/
def picBytes (p : FPic) : List UInt8 := [UInt8.ofNat p.w.toNat, UInt8.ofNat p.h.toNat] ++ pack (rowsI p.w.toNat p.p p.h.toNat)
/-- a row's first k places, of what was told -/
def rowOf (s : List UInt8) (up : List Int) (way : Nat) : Nat → List Int
  | 0 => []
  | k + 1 => let r := rowOf s up way k
    r ++ [(((s.getD k 0).toNat : Int) + guessI way (atI r ((k : Int) - 2)) (atI up k)) % 256]
theorem rowOf_len (s : List UInt8) (up : List Int) (way : Nat) : ∀ k, (rowOf s up way k).length = k
  | 0 => rfl
  | k + 1 => by simp [rowOf, rowOf_len s up way k]
/-! ## back -/
def pairsI : List Int → List Px
  | a :: b :: r => (a, b) :: pairsI r
  | _ => []
theorem pairs_flat : ∀ (l : List Px), pairsI (flatPx l) = l
  | [] => rfl
  | a :: l => by
    have e : flatPx (a :: l) = a.1 :: a.2 :: flatPx l := rfl
    rw [e]
    show (a.1, a.2) :: pairsI (flatPx l) = a :: l
    rw [pairs_flat l]
/-- so many rows that were told, read: none where a way is no way -/
def parseGo (W : Nat) : Nat → List UInt8 → List Int → List Px → Option (List Px)
  | 0, _, _, acc => some acc
  | h + 1, t, up, acc =>
    if 4 ≤ (t.getD 0 0).toNat then none
    else parseGo W h (t.drop (1 + 2 * W)) (rowOf (t.drop 1) up (t.getD 0 0).toNat (2 * W)) (acc ++ pairsI (rowOf (t.drop 1) up (t.getD 0 0).toNat (2 * W)))
def noPic : FPic := ⟨0, 0, []⟩
/-- bytes read as a picture, and what is wrong -/
def picOf (s : List UInt8) : FPic × Nat :=
  if s.length < 2 then (noPic, 4)
  else if ¬ (1 ≤ (s.getD 0 0).toNat ∧ (s.getD 0 0).toNat ≤ 8 ∧ 1 ≤ (s.getD 1 0).toNat ∧ (s.getD 1 0).toNat ≤ 8) then (noPic, 1)
  else
    let W := (s.getD 0 0).toNat
    let H := (s.getD 1 0).toNat
    let u := unpack (s.drop 2) ((H * (1 + 2 * W) : Nat) : Int)
    if u.2 ≠ 0 then (noPic, u.2)
    else if u.1.length ≠ H * (1 + 2 * W) then (noPic, 4)
    else match parseGo W H u.1 [] [] with
      | none => (noPic, 4)
      | some l => (⟨W, H, l⟩, 0)
/-- a row is read as it was told -/
theorem row_back {r up : List Int} {way : Nat} (hr : ∀ v ∈ r, 0 ≤ v ∧ v ≤ 255) : ∀ k, k ≤ r.length → rowOf (toldI r up way r.length) up way k = r.take k
  | 0, _ => rfl
  | k + 1, hk => by
    have ih := row_back hr (up := up) (way := way) k (by omega)
    have hk' : k < r.length := by omega
    show (rowOf _ up way k ++ [_]) = _
    rw [ih]
    have e1 : atI (r.take k) ((k : Int) - 2) = atI r ((k : Int) - 2) := by
      by_cases h : (k : Int) - 2 < 0
      · rw [atI_neg h, atI_neg h]
      · obtain ⟨m, hm⟩ : ∃ m : Nat, (k : Int) - 2 = (m : Int) := ⟨((k : Int) - 2).toNat, by omega⟩
        rw [hm, atI_at (by rw [List.length_take]; omega), atI_at (by omega), List.getElem_take]
    have e2 : (toldI r up way r.length).getD k 0 = byteI (r[k] - guessI way (atI r ((k : Int) - 2)) (atI up k)) := by
      rw [List.getD_eq_getElem?_getD]
      unfold toldI
      rw [List.getElem?_map, List.getElem?_range hk', Option.map_some, Option.getD_some, atI_at hk']
    rw [e1, e2, byteI_nat, List.take_succ_eq_append_getElem hk']
    congr 2
    have h1 := hr r[k] (List.getElem_mem hk')
    generalize guessI way (atI r ((k : Int) - 2)) (atI up k) = g
    omega
end Fb

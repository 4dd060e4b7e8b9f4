/- Plain laws of pictures as bytes: what is written is read as it was; how long it is. Conditions: pictures that may be. -/
import Derived.Test.YtinlmikkggnljaaPicLaw
namespace Fb
/-- the row above row y; none above the first one -/
def upI (W : Nat) (l : List Px) (y : Nat) : List Int := if y = 0 then [] else rowI W l (y - 1)
theorem upI_succ (W : Nat) (l : List Px) (y : Nat) : upI W l (y + 1) = rowI W l y := by unfold upI; rw [if_neg (by omega)]; rfl
/-- one row's way, and what is told -/
def encI (W : Nat) (l : List Px) (y : Nat) : List UInt8 := UInt8.ofNat (bestI (rowI W l y) (upI W l y) (2 * W) 3).1 :: (bestI (rowI W l y) (upI W l y) (2 * W) 3).2
theorem rowsI_succ (W : Nat) (l : List Px) (y : Nat) : rowsI W l (y + 1) = rowsI W l y ++ encI W l y := rfl
def fromI (W : Nat) (l : List Px) : Nat → Nat → List UInt8
  | _, 0 => []
  | y, k + 1 => encI W l y ++ fromI W l (y + 1) k
theorem rowsI_from (W : Nat) (l : List Px) : ∀ (k y : Nat), rowsI W l (y + k) = rowsI W l y ++ fromI W l y k
  | 0, y => by simp [fromI]
  | k + 1, y => by
    have h := rowsI_from W l k (y + 1)
    rw [rowsI_succ] at h
    rw [show y + (k + 1) = y + 1 + k by omega, h, List.append_assoc]
    rfl
theorem bestI_at (r up : List Int) (n : Nat) : ∀ w, (bestI r up n w).1 ≤ w ∧ (bestI r up n w).2 = toldI r up (bestI r up n w).1 n
  | 0 => ⟨Nat.le_refl _, rfl⟩
  | w + 1 => by
    have h := bestI_at r up n w
    unfold bestI
    split
    · exact ⟨Nat.le_refl _, rfl⟩
    · exact ⟨by omega, h.2⟩
theorem encI_len (W : Nat) (l : List Px) (y : Nat) : (encI W l y).length = 1 + 2 * W := by
  unfold encI
  rw [List.length_cons, (bestI_at _ _ _ 3).2, toldI_len]; omega
theorem rowsI_len (W : Nat) (l : List Px) : ∀ y, (rowsI W l y).length = y * (1 + 2 * W)
  | 0 => by simp [rowsI]
  | y + 1 => by rw [rowsI_succ, List.length_append, rowsI_len W l y, encI_len, Nat.add_mul]; omega
theorem rowOf_append {s t up : List _} {way : Nat} : ∀ k, k ≤ s.length → rowOf (s ++ t) up way k = rowOf s up way k
  | 0, _ => rfl
  | k + 1, h => by
    have ih := rowOf_append (s := s) (t := t) (up := up) (way := way) k (by omega)
    show (rowOf _ up way k ++ [_]) = (rowOf _ up way k ++ [_])
    rw [ih]
    have e : (s ++ t).getD k 0 = s.getD k 0 := by
      rw [List.getD_eq_getElem?_getD, List.getD_eq_getElem?_getD, List.getElem?_append_left (by omega)]
    rw [e]
theorem rowI_len {W : Nat} {l : List Px} {y : Nat} (h : (y + 1) * W ≤ l.length) : (rowI W l y).length = 2 * W := by
  unfold rowI
  rw [flatPx_len, List.length_take, List.length_drop]
  rw [Nat.add_mul] at h
  omega
theorem rowI_bytes {W : Nat} {l : List Px} {y : Nat} (h : ∀ q ∈ l, PxFine q) : ∀ v ∈ rowI W l y, 0 ≤ v ∧ v ≤ 255 := by
  intro v hv
  unfold rowI flatPx at hv
  obtain ⟨q, hq, hv⟩ := List.mem_flatMap.1 hv
  have hf := h q (List.mem_of_mem_drop (List.mem_of_mem_take hq))
  unfold PxFine at hf
  simp only [List.mem_cons, List.not_mem_nil, or_false] at hv
  rcases hv with rfl | rfl <;> omega
theorem parse_from {W : Nat} {l : List Px} (hf : ∀ q ∈ l, PxFine q) : ∀ (k y : Nat) (acc : List Px), (y + k) * W ≤ l.length → parseGo W k (fromI W l y k) (upI W l y) acc = some (acc ++ (l.drop (y * W)).take (k * W)) := by
  intro k
  induction k with
  | zero => intro y acc _; simp [parseGo]
  | succ k ih =>
    intro y acc h
    have h1 : (y + 1) * W ≤ l.length := Nat.le_trans (Nat.mul_le_mul_right _ (by omega)) h
    obtain ⟨hb1, hb2⟩ := bestI_at (rowI W l y) (upI W l y) (2 * W) 3
    have hlen := encI_len W l y
    have e2 : (fromI W l y (k + 1)).drop (1 + 2 * W) = fromI W l (y + 1) k := by
      have e : fromI W l y (k + 1) = encI W l y ++ fromI W l (y + 1) k := rfl
      rw [e, ← hlen, List.drop_left]
    have ef : fromI W l y (k + 1) = UInt8.ofNat (bestI (rowI W l y) (upI W l y) (2 * W) 3).1 :: ((bestI (rowI W l y) (upI W l y) (2 * W) 3).2 ++ fromI W l (y + 1) k) := rfl
    generalize bestI (rowI W l y) (upI W l y) (2 * W) 3 = B at *
    have e0 : ((fromI W l y (k + 1)).getD 0 0).toNat = B.1 := by
      rw [ef, List.getD_cons_zero, UInt8.toNat_ofNat']; omega
    have e1 : (fromI W l y (k + 1)).drop 1 = toldI (rowI W l y) (upI W l y) B.1 (2 * W) ++ fromI W l (y + 1) k := by
      rw [← hb2, ef]; rfl
    have hrl := rowI_len h1
    have e3 : rowOf ((fromI W l y (k + 1)).drop 1) (upI W l y) B.1 (2 * W) = rowI W l y := by
      rw [e1, rowOf_append _ (by rw [toldI_len]; omega)]
      have := row_back (r := rowI W l y) (up := upI W l y) (way := B.1) (rowI_bytes hf) (2 * W) (by omega)
      rw [hrl] at this
      rw [this, List.take_of_length_le (by omega)]
    unfold parseGo
    have hh := ih (y + 1) (acc ++ pairsI (rowI W l y)) (by rw [show y + 1 + k = y + (k + 1) by omega]; exact h)
    rw [upI_succ] at hh
    rw [e0, if_neg (by omega), e2, e3, hh]
    have e4 : pairsI (rowI W l y) = (l.drop (y * W)).take W := by unfold rowI; rw [pairs_flat]
    have e5 : (l.drop (y * W)).take ((k + 1) * W) = (l.drop (y * W)).take W ++ (l.drop ((y + 1) * W)).take (k * W) := by
      have e6 : (k + 1) * W = W + k * W := by rw [Nat.add_mul]; omega
      have e7 : y * W + W = (y + 1) * W := by rw [Nat.add_mul]; omega
      rw [e6, List.take_add, List.drop_drop, e7]
    rw [e4, List.append_assoc, ← e5]
/-- what is written is read as it was -/
theorem pic_back {p : FPic} (h : PicFine p) : picOf (picBytes p) = (p, 0) := by
  obtain ⟨W, H, l⟩ := p
  obtain ⟨h1, h2, h3, h4, h5, h6⟩ := h
  simp only at h1 h2 h3 h4 h5 h6
  obtain ⟨w, rfl⟩ : ∃ w : Nat, W = (w : Int) := ⟨W.toNat, by omega⟩
  obtain ⟨k, rfl⟩ : ∃ k : Nat, H = (k : Int) := ⟨H.toNat, by omega⟩
  have hl : l.length = k * w := by
    have : ((l.length : Nat) : Int) = ((w * k : Nat) : Int) := by rw [h5]; simp
    rw [Nat.mul_comm]; omega
  have ew : (UInt8.ofNat w).toNat = w := by rw [UInt8.toNat_ofNat']; omega
  have ek : (UInt8.ofNat k).toNat = k := by rw [UInt8.toNat_ofNat']; omega
  unfold picOf picBytes
  simp only [Int.toNat_natCast]
  generalize hR : rowsI w l k = R
  have hRl : R.length = k * (1 + 2 * w) := by rw [← hR, rowsI_len]
  rw [if_neg (by simp)]
  have g0 : (([UInt8.ofNat w, UInt8.ofNat k] ++ pack R).getD 0 0) = UInt8.ofNat w := rfl
  have g1 : (([UInt8.ofNat w, UInt8.ofNat k] ++ pack R).getD 1 0) = UInt8.ofNat k := rfl
  have g2 : ([UInt8.ofNat w, UInt8.ofNat k] ++ pack R).drop 2 = pack R := rfl
  rw [g0, g1, g2, ew, ek, if_neg (by omega), ← hRl, unpack_pack, if_neg (by simp), if_neg (by simp)]
  have hp := parse_from h6 k 0 [] (by rw [Nat.zero_add, hl]; exact Nat.le_refl _)
  have hfr := rowsI_from w l k 0
  have e0 : rowsI w l 0 = [] := rfl
  rw [Nat.zero_add, hR, e0, List.nil_append] at hfr
  rw [← hfr] at hp
  have eu : upI w l 0 = [] := rfl
  rw [eu] at hp
  show (match parseGo w k R [] [] with | none => (noPic, 4) | some l => ((⟨(w : Int), (k : Int), l⟩ : FPic), 0)) = _
  rw [hp]
  simp only [List.nil_append]
  rw [Nat.zero_mul, List.drop_zero, ← hl, List.take_length]
theorem picBytes_len {p : FPic} (h : PicFine p) : ((picBytes p).length : Int) ≤ 2 + 2 * p.h * (1 + 2 * p.w) := by
  unfold picBytes
  have hp := pack_len _ (rowsI p.w.toNat p.p p.h.toNat) (Nat.le_refl _)
  rw [rowsI_len] at hp
  obtain ⟨h1, h2, h3, h4, -, -⟩ := h
  have e : ((p.h.toNat * (1 + 2 * p.w.toNat) : Nat) : Int) = p.h * (1 + 2 * p.w) := by
    rw [Int.natCast_mul, Int.natCast_add, Int.natCast_mul, Int.toNat_of_nonneg (by omega), Int.toNat_of_nonneg (by omega)]; rfl
  rw [List.length_append]
  simp only [List.length_cons, List.length_nil]
  rw [Int.mul_assoc]
  omega
theorem picBytes_lt {p : FPic} (h : PicFine p) : (picBytes p).length ≤ 300 := by
  have h1 := picBytes_len h
  obtain ⟨a1, a2, a3, a4, -, -⟩ := h
  have : p.h * (1 + 2 * p.w) ≤ 8 * 17 := Int.mul_le_mul (by omega) (by omega) (by omega) (by omega)
  rw [Int.mul_assoc] at h1
  omega
theorem picBytes_inj {p q : FPic} (hp : PicFine p) (hq : PicFine q) (h : picBytes p = picBytes q) : p = q := by
  have h1 := pic_back hp
  rw [h, pic_back hq] at h1
  injection h1 with h1
  exact h1.symm
/-! ## the reference: byte i of row y -/
/-- of a picture's pixels, W in a row, the byte i of the row y; 0: there is none -/
def byteL (W : Nat) (l : List Px) (y i : Int) : Int := if y < 0 ∨ i < 0 ∨ 2 * (W : Int) ≤ i then 0 else (flatPx l).getD (y.toNat * (2 * W) + i.toNat) 0
theorem flatPx_drop (l : List Px) : ∀ k, flatPx (l.drop k) = (flatPx l).drop (2 * k) := by
  induction l with
  | nil => intro k; simp [flatPx]
  | cons a l ih =>
    intro k
    cases k with
    | zero => simp
    | succ k =>
      rw [List.drop_succ_cons, ih]
      rw [show flatPx (a :: l) = a.1 :: a.2 :: flatPx l from rfl, show 2 * (k + 1) = 2 * k + 1 + 1 by omega]
      rfl
theorem flatPx_take (l : List Px) : ∀ k, flatPx (l.take k) = (flatPx l).take (2 * k) := by
  induction l with
  | nil => intro k; simp [flatPx]
  | cons a l ih =>
    intro k
    cases k with
    | zero => simp [flatPx]
    | succ k =>
      rw [List.take_succ_cons, show flatPx (a :: l.take k) = a.1 :: a.2 :: flatPx (l.take k) from rfl, ih]
      rw [show flatPx (a :: l) = a.1 :: a.2 :: flatPx l from rfl, show 2 * (k + 1) = 2 * k + 1 + 1 by omega]
      rfl
theorem rowI_flat (W : Nat) (l : List Px) (y : Nat) : rowI W l y = ((flatPx l).drop (y * (2 * W))).take (2 * W) := by
  unfold rowI
  rw [flatPx_take, flatPx_drop]
  congr 2
  rw [Nat.mul_left_comm]
theorem byteL_row (W : Nat) (l : List Px) (y : Nat) (i : Int) : byteL W l (y : Int) i = atI (rowI W l y) i := by
  unfold byteL atI
  by_cases h : i < 0
  · rw [if_pos (.inr (.inl h)), if_pos h]
  · rw [if_neg h, rowI_flat]
    by_cases h2 : 2 * (W : Int) ≤ i
    · rw [if_pos (.inr (.inr h2)), List.getD_eq_getElem?_getD, List.getElem?_eq_none (by rw [List.length_take]; omega)]; rfl
    · rw [if_neg (by omega), List.getD_eq_getElem?_getD, List.getD_eq_getElem?_getD, List.getElem?_take, if_pos (by omega), List.getElem?_drop, Int.toNat_natCast]
theorem byteL_up (W : Nat) (l : List Px) (y : Nat) (i : Int) : byteL W l ((y : Int) - 1) i = atI (upI W l y) i := by
  cases y with
  | zero => 
    have e : upI W l 0 = [] := rfl
    rw [e]
    unfold byteL atI
    rw [if_pos (.inl (by omega))]
    split <;> simp
  | succ y => rw [upI_succ, show ((y + 1 : Nat) : Int) - 1 = (y : Int) by omega, byteL_row]
end Fb

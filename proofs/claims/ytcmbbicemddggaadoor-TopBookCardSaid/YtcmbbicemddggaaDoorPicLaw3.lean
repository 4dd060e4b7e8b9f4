/- Plain laws of pictures as bytes: what is written is read as it was; how long it is. Conditions: pictures that may be. Plain laws of pictures as bytes: what stands at the head of each round of the loops that write and read them. Conditions: those of each lemma. -/
import Derived.Test.YtcmbbicemddggaaDoorPicInts
namespace Fb
/-- the row above row y; none above the first one -/
def upI (W : Nat) (l : List Px) (y : Nat) : List Int := if y = 0 then [] else rowI W l (y - 1)
theorem upI_succ (W : Nat) (l : List Px) (y : Nat) : upI W l (y + 1) = rowI W l y := by unfold upI; rw [if_neg (by omega)]; rfl
/-- one row's way, and what is told -/
def encI (W : Nat) (l : List Px) (y : Nat) : List UInt8 := UInt8.ofNat (bestI (rowI W l y) (upI W l y) (2 * W) 3).1 :: (bestI (rowI W l y) (upI W l y) (2 * W) 3).2
theorem rowsI_succ (W : Nat) (l : List Px) (y : Nat) : rowsI W l (y + 1) = rowsI W l y ++ encI W l y := rfl
def fromI (W : Nat) (l : List Px) : Nat → Nat → List UInt8
  | _, 0 => []
  | y, k + 1 => encI W l y ++ fromI W l (y + 1) k
theorem rowsI_from (W : Nat) (l : List Px) : ∀ (k y : Nat), rowsI W l (y + k) = rowsI W l y ++ fromI W l y k
  | 0, y => by simp [fromI]
  | k + 1, y => by
    have h := rowsI_from W l k (y + 1)
    rw [rowsI_succ] at h
    rw [show y + (k + 1) = y + 1 + k by omega, h, List.append_assoc]
    rfl
theorem bestI_at (r up : List Int) (n : Nat) : ∀ w, (bestI r up n w).1 ≤ w ∧ (bestI r up n w).2 = toldI r up (bestI r up n w).1 n
  | 0 => ⟨Nat.le_refl _, rfl⟩
  | w + 1 => by
    have h := bestI_at r up n w
    unfold bestI
    split
    · exact ⟨Nat.le_refl _, rfl⟩
    · exact ⟨by omega, h.2⟩
theorem encI_len (W : Nat) (l : List Px) (y : Nat) : (encI W l y).length = 1 + 2 * W := by
  unfold encI
  rw [List.length_cons, (bestI_at _ _ _ 3).2, toldI_len]; omega
theorem rowsI_len (W : Nat) (l : List Px) : ∀ y, (rowsI W l y).length = y * (1 + 2 * W)
  | 0 => by simp [rowsI]
  | y + 1 => by rw [rowsI_succ, List.length_append, rowsI_len W l y, encI_len, Nat.add_mul]; omega
theorem rowOf_append {s t up : List _} {way : Nat} : ∀ k, k ≤ s.length → rowOf (s ++ t) up way k = rowOf s up way k
  | 0, _ => rfl
  | k + 1, h => by
    have ih := rowOf_append (s := s) (t := t) (up := up) (way := way) k (by omega)
    show (rowOf _ up way k ++ [_]) = (rowOf _ up way k ++ [_])
    rw [ih]
    have e : (s ++ t).getD k 0 = s.getD k 0 := by
      rw [List.getD_eq_getElem?_getD, List.getD_eq_getElem?_getD, List.getElem?_append_left (by omega)]
    rw [e]
theorem rowI_len {W : Nat} {l : List Px} {y : Nat} (h : (y + 1) * W ≤ l.length) : (rowI W l y).length = 2 * W := by
  unfold rowI
  rw [flatPx_len, List.length_take, List.length_drop]
  rw [Nat.add_mul] at h
  omega
theorem rowI_bytes {W : Nat} {l : List Px} {y : Nat} (h : ∀ q ∈ l, PxFine q) : ∀ v ∈ rowI W l y, 0 ≤ v ∧ v ≤ 255 := by
  intro v hv
  unfold rowI flatPx at hv
  obtain ⟨q, hq, hv⟩ := List.mem_flatMap.1 hv
  have hf := h q (List.mem_of_mem_drop (List.mem_of_mem_take hq))
  unfold PxFine at hf
  simp only [List.mem_cons, List.not_mem_nil, or_false] at hv
  rcases hv with rfl | rfl <;> omega
theorem parse_from {W : Nat} {l : List Px} (hf : ∀ q ∈ l, PxFine q) : ∀ (k y : Nat) (acc : List Px), (y + k) * W ≤ l.length → parseGo W k (fromI W l y k) (upI W l y) acc = some (acc ++ (l.drop (y * W)).take (k * W)) := by
  intro k
  induction k with
  | zero => intro y acc _; simp [parseGo]
  | succ k ih =>
    intro y acc h
    have h1 : (y + 1) * W ≤ l.length := Nat.le_trans (Nat.mul_le_mul_right _ (by omega)) h
    obtain ⟨hb1, hb2⟩ := bestI_at (rowI W l y) (upI W l y) (2 * W) 3
    have hlen := encI_len W l y
    have e2 : (fromI W l y (k + 1)).drop (1 + 2 * W) = fromI W l (y + 1) k := by
      have e : fromI W l y (k + 1) = encI W l y ++ fromI W l (y + 1) k := rfl
      rw [e, ← hlen, List.drop_left]
    have ef : fromI W l y (k + 1) = UInt8.ofNat (bestI (rowI W l y) (upI W l y) (2 * W) 3).1 :: ((bestI (rowI W l y) (upI W l y) (2 * W) 3).2 ++ fromI W l (y + 1) k) := rfl
    generalize bestI (rowI W l y) (upI W l y) (2 * W) 3 = B at *
    have e0 : ((fromI W l y (k + 1)).getD 0 0).toNat = B.1 := by
      rw [ef, List.getD_cons_zero, UInt8.toNat_ofNat']; omega
    have e1 : (fromI W l y (k + 1)).drop 1 = toldI (rowI W l y) (upI W l y) B.1 (2 * W) ++ fromI W l (y + 1) k := by
      rw [← hb2, ef]; rfl
    have hrl := rowI_len h1
    have e3 : rowOf ((fromI W l y (k + 1)).drop 1) (upI W l y) B.1 (2 * W) = rowI W l y := by
      rw [e1, rowOf_append _ (by rw [toldI_len]; omega)]
      have := row_back (r := rowI W l y) (up := upI W l y) (way := B.1) (rowI_bytes hf) (2 * W) (by omega)
      rw [hrl] at this
      rw [this, List.take_of_length_le (by omega)]
    unfold parseGo
    have hh := ih (y + 1) (acc ++ pairsI (rowI W l y)) (by rw [show y + 1 + k = y + (k + 1) by omega]; exact h)
    rw [upI_succ] at hh
    rw [e0, if_neg (by omega), e2, e3, hh]
    have e4 : pairsI (rowI W l y) = (l.drop (y * W)).take W := by unfold rowI; rw [pairs_flat]
    have e5 : (l.drop (y * W)).take ((k + 1) * W) = (l.drop (y * W)).take W ++ (l.drop ((y + 1) * W)).take (k * W) := by
      have e6 : (k + 1) * W = W + k * W := by rw [Nat.add_mul]; omega
      have e7 : y * W + W = (y + 1) * W := by rw [Nat.add_mul]; omega
      rw [e6, List.take_add, List.drop_drop, e7]
    rw [e4, List.append_assoc, ← e5]
/-- what is written is read as it was -/
theorem pic_back {p : FPic} (h : PicFine p) : picOf (picBytes p) = (p, 0) := by
  obtain ⟨W, H, l⟩ := p
  obtain ⟨h1, h2, h3, h4, h5, h6⟩ := h
  simp only at h1 h2 h3 h4 h5 h6
  obtain ⟨w, rfl⟩ : ∃ w : Nat, W = (w : Int) := ⟨W.toNat, by omega⟩
  obtain ⟨k, rfl⟩ : ∃ k : Nat, H = (k : Int) := ⟨H.toNat, by omega⟩
  have hl : l.length = k * w := by
    have : ((l.length : Nat) : Int) = ((w * k : Nat) : Int) := by rw [h5]; simp
    rw [Nat.mul_comm]; omega
  have ew : (UInt8.ofNat w).toNat = w := by rw [UInt8.toNat_ofNat']; omega
  have ek : (UInt8.ofNat k).toNat = k := by rw [UInt8.toNat_ofNat']; omega
  unfold picOf picBytes
  simp only [Int.toNat_natCast]
  generalize hR : rowsI w l k = R
  have hRl : R.length = k * (1 + 2 * w) := by rw [← hR, rowsI_len]
  rw [if_neg (by simp)]
  have g0 : (([UInt8.ofNat w, UInt8.ofNat k] ++ pack R).getD 0 0) = UInt8.ofNat w := rfl
  have g1 : (([UInt8.ofNat w, UInt8.ofNat k] ++ pack R).getD 1 0) = UInt8.ofNat k := rfl
  have g2 : ([UInt8.ofNat w, UInt8.ofNat k] ++ pack R).drop 2 = pack R := rfl
  rw [g0, g1, g2, ew, ek, if_neg (by omega), ← hRl, unpack_pack, if_neg (by simp), if_neg (by simp)]
  have hp := parse_from h6 k 0 [] (by rw [Nat.zero_add, hl]; exact Nat.le_refl _)
  have hfr := rowsI_from w l k 0
  have e0 : rowsI w l 0 = [] := rfl
  rw [Nat.zero_add, hR, e0, List.nil_append] at hfr
  rw [← hfr] at hp
  have eu : upI w l 0 = [] := rfl
  rw [eu] at hp
  show (match parseGo w k R [] [] with | none => (noPic, 4) | some l => ((⟨(w : Int), (k : Int), l⟩ : FPic), 0)) = _
  rw [hp]
  simp only [List.nil_append]
  rw [Nat.zero_mul, List.drop_zero, ← hl, List.take_length]
theorem picBytes_len {p : FPic} (h : PicFine p) : ((picBytes p).length : Int) ≤ 2 + 2 * p.h * (1 + 2 * p.w) := by
  unfold picBytes
  have hp := pack_len _ (rowsI p.w.toNat p.p p.h.toNat) (Nat.le_refl _)
  rw [rowsI_len] at hp
  obtain ⟨h1, h2, h3, h4, -, -⟩ := h
  have e : ((p.h.toNat * (1 + 2 * p.w.toNat) : Nat) : Int) = p.h * (1 + 2 * p.w) := by
    rw [Int.natCast_mul, Int.natCast_add, Int.natCast_mul, Int.toNat_of_nonneg (by omega), Int.toNat_of_nonneg (by omega)]; rfl
  rw [List.length_append]
  simp only [List.length_cons, List.length_nil]
  rw [Int.mul_assoc]
  omega
theorem picBytes_lt {p : FPic} (h : PicFine p) : (picBytes p).length ≤ 300 := by
  have h1 := picBytes_len h
  obtain ⟨a1, a2, a3, a4, -, -⟩ := h
  have : p.h * (1 + 2 * p.w) ≤ 8 * 17 := Int.mul_le_mul (by omega) (by omega) (by omega) (by omega)
  rw [Int.mul_assoc] at h1
  omega
theorem picBytes_inj {p q : FPic} (hp : PicFine p) (hq : PicFine q) (h : picBytes p = picBytes q) : p = q := by
  have h1 := pic_back hp
  rw [h, pic_back hq] at h1
  injection h1 with h1
  exact h1.symm
/-! ## the reference: byte i of row y -/
/-- of a picture's pixels, W in a row, the byte i of the row y; 0: there is none -/
def byteL (W : Nat) (l : List Px) (y i : Int) : Int := if y < 0 ∨ i < 0 ∨ 2 * (W : Int) ≤ i then 0 else (flatPx l).getD (y.toNat * (2 * W) + i.toNat) 0
theorem flatPx_drop (l : List Px) : ∀ k, flatPx (l.drop k) = (flatPx l).drop (2 * k) := by
  induction l with
  | nil => intro k; simp [flatPx]
  | cons a l ih =>
    intro k
    cases k with
    | zero => simp
    | succ k =>
      rw [List.drop_succ_cons, ih]
      rw [show flatPx (a :: l) = a.1 :: a.2 :: flatPx l from rfl, show 2 * (k + 1) = 2 * k + 1 + 1 by omega]
      rfl
theorem flatPx_take (l : List Px) : ∀ k, flatPx (l.take k) = (flatPx l).take (2 * k) := by
  induction l with
  | nil => intro k; simp [flatPx]
  | cons a l ih =>
    intro k
    cases k with
    | zero => simp [flatPx]
    | succ k =>
      rw [List.take_succ_cons, show flatPx (a :: l.take k) = a.1 :: a.2 :: flatPx (l.take k) from rfl, ih]
      rw [show flatPx (a :: l) = a.1 :: a.2 :: flatPx l from rfl, show 2 * (k + 1) = 2 * k + 1 + 1 by omega]
      rfl
theorem rowI_flat (W : Nat) (l : List Px) (y : Nat) : rowI W l y = ((flatPx l).drop (y * (2 * W))).take (2 * W) := by
  unfold rowI
  rw [flatPx_take, flatPx_drop]
  congr 2
  rw [Nat.mul_left_comm]
theorem byteL_row (W : Nat) (l : List Px) (y : Nat) (i : Int) : byteL W l (y : Int) i = atI (rowI W l y) i := by
  unfold byteL atI
  by_cases h : i < 0
  · rw [if_pos (.inr (.inl h)), if_pos h]
  · rw [if_neg h, rowI_flat]
    by_cases h2 : 2 * (W : Int) ≤ i
    · rw [if_pos (.inr (.inr h2)), List.getD_eq_getElem?_getD, List.getElem?_eq_none (by rw [List.length_take]; omega)]; rfl
    · rw [if_neg (by omega), List.getD_eq_getElem?_getD, List.getD_eq_getElem?_getD, List.getElem?_take, if_pos (by omega), List.getElem?_drop, Int.toNat_natCast]
theorem byteL_up (W : Nat) (l : List Px) (y : Nat) (i : Int) : byteL W l ((y : Int) - 1) i = atI (upI W l y) i := by
  cases y with
  | zero => 
    have e : upI W l 0 = [] := rfl
    rw [e]
    unfold byteL atI
    rw [if_pos (.inl (by omega))]
    split <;> simp
  | succ y => rw [upI_succ, show ((y + 1 : Nat) : Int) - 1 = (y : Int) by omega, byteL_row]
end Fb
namespace Fb
/-! ## reading: so many rows are read -/
/-- y rows are read: acc; what comes of the rest is what comes of all -/
def PInv (W H : Nat) (t : List UInt8) (y : Nat) (acc : List Px) : Prop :=
  parseGo W (H - y) (t.drop (y * (1 + 2 * W))) (upI W acc y) acc = parseGo W H t [] [] ∧ acc.length = y * W
theorem PInv.start (W H : Nat) (t : List UInt8) : PInv W H t 0 [] := by
  refine ⟨?_, by simp⟩
  rw [Nat.sub_zero, Nat.zero_mul, List.drop_zero]; rfl
theorem PInv.done {W H : Nat} {t : List UInt8} {acc : List Px} (h : PInv W H t H acc) : parseGo W H t [] [] = some acc := by
  rw [← h.1, Nat.sub_self]; rfl
theorem drop_getD (t : List UInt8) (k : Nat) : (t.drop k).getD 0 0 = t.getD k 0 := by
  rw [List.getD_eq_getElem?_getD, List.getD_eq_getElem?_getD, List.getElem?_drop]; rfl
theorem PInv.bad {W H : Nat} {t : List UInt8} {y : Nat} {acc : List Px} (h : PInv W H t y acc) (hy : y < H) (hw : 4 ≤ (t.getD (y * (1 + 2 * W)) 0).toNat) : parseGo W H t [] [] = none := by
  rw [← h.1, show H - y = (H - y - 1) + 1 by omega]
  unfold parseGo
  rw [drop_getD, if_pos hw]
theorem pairs_len : ∀ (l : List Int) (k : Nat), l.length = 2 * k → (pairsI l).length = k ∧ flatPx (pairsI l) = l
  | [], k, h => by
    have e : k = 0 := by simp only [List.length_nil] at h; omega
    subst e; exact ⟨rfl, rfl⟩
  | [a], k, h => by simp at h; omega
  | a :: b :: r, k, h => by
    obtain ⟨m, rfl⟩ : ∃ m, k = m + 1 := ⟨k - 1, by simp at h; omega⟩
    obtain ⟨h1, h2⟩ := pairs_len r m (by simp at h; omega)
    exact ⟨by show (pairsI r).length + 1 = m + 1; rw [h1], by show a :: b :: flatPx (pairsI r) = _; rw [h2]⟩
theorem upI_snoc {W y : Nat} {acc : List Px} {r : List Int} (ha : acc.length = y * W) (hr : r.length = 2 * W) : upI W (acc ++ pairsI r) (y + 1) = r := by
  obtain ⟨h1, h2⟩ := pairs_len r W hr
  rw [upI_succ]
  unfold rowI
  rw [← ha, List.drop_left, List.take_of_length_le (by omega), h2]
theorem PInv.step {W H : Nat} {t : List UInt8} {y : Nat} {acc : List Px} (h : PInv W H t y acc) (hy : y < H) (hw : (t.getD (y * (1 + 2 * W)) 0).toNat < 4) :
    PInv W H t (y + 1) (acc ++ pairsI (rowOf (t.drop (y * (1 + 2 * W) + 1)) (upI W acc y) (t.getD (y * (1 + 2 * W)) 0).toNat (2 * W))) := by
  have hl := rowOf_len (t.drop (y * (1 + 2 * W) + 1)) (upI W acc y) (t.getD (y * (1 + 2 * W)) 0).toNat (2 * W)
  have h1 := h.1
  generalize hX : parseGo W H t [] [] = X at h1
  rw [show H - y = (H - (y + 1)) + 1 by omega] at h1
  unfold parseGo at h1
  rw [drop_getD, if_neg (by omega), List.drop_drop, List.drop_drop] at h1
  refine ⟨?_, ?_⟩
  · rw [hX, upI_snoc h.2 hl, show (y + 1) * (1 + 2 * W) = y * (1 + 2 * W) + (1 + 2 * W) by rw [Nat.add_mul]; omega]
    exact h1
  · rw [List.length_append, h.2, (pairs_len _ W hl).1, Nat.add_mul]; omega
theorem rowOf_succ (s : List UInt8) (up : List Int) (way k : Nat) : rowOf s up way (k + 1) = rowOf s up way k ++ [(((s.getD k 0).toNat : Int) + guessI way (atI (rowOf s up way k) ((k : Int) - 2)) (atI up k)) % 256] := rfl
theorem rowOf_bytes (s : List UInt8) (up : List Int) (way : Nat) : ∀ k, ∀ v ∈ rowOf s up way k, 0 ≤ v ∧ v ≤ 255
  | 0 => fun v h => by simp [rowOf] at h
  | k + 1 => fun v h => by
    rw [rowOf_succ] at h
    rcases List.mem_append.1 h with h | h
    · exact rowOf_bytes s up way k v h
    · simp only [List.mem_singleton] at h
      subst h
      omega
theorem atI_bytes {r : List Int} (h : ∀ v ∈ r, 0 ≤ v ∧ v ≤ 255) (i : Int) : 0 ≤ atI r i ∧ atI r i ≤ 255 := by
  unfold atI
  split
  · omega
  · rw [List.getD_eq_getElem?_getD]
    cases e : r[i.toNat]? with
    | none => simp
    | some v => exact h v (List.mem_of_getElem? e)
theorem guessI_bd {way : Nat} {a b : Int} (ha : 0 ≤ a ∧ a ≤ 255) (hb : 0 ≤ b ∧ b ≤ 255) : 0 ≤ guessI way a b ∧ guessI way a b ≤ 255 := by
  unfold guessI
  split <;> omega
theorem upI_bytes {W : Nat} {l : List Px} {y : Nat} (h : ∀ q ∈ l, PxFine q) : ∀ v ∈ upI W l y, 0 ≤ v ∧ v ≤ 255 := by
  unfold upI
  split
  · intro v hv; simp at hv
  · exact rowI_bytes h
/-! ## the reference's reading: a row half read, zeros behind it -/
/-- pixels of which y rows and i bytes of row y are read, and zeros -/
def Half (W H : Nat) (acc : List Px) (r : List Int) (l : List Px) : Prop := flatPx l = flatPx acc ++ r ++ List.replicate (H * (2 * W) - (flatPx acc).length - r.length) 0
theorem flat_inj : ∀ {a b : List Px}, flatPx a = flatPx b → a = b := fun {a b} h => by rw [← pairs_flat a, h, pairs_flat]
theorem Half.len {W H y : Nat} {acc l : List Px} {r : List Int} (h : Half W H acc r l) (ha : acc.length = y * W) (hr : r.length ≤ 2 * W) (hy : y < H) : l.length = W * H := by
  have h1 := congrArg List.length h
  rw [flatPx_len, List.length_append, List.length_append, List.length_replicate, flatPx_len, ha] at h1
  have h2 : (y + 1) * W ≤ H * W := Nat.mul_le_mul_right _ hy
  rw [Nat.add_mul] at h2
  have e : H * (2 * W) = 2 * (H * W) := Nat.mul_left_comm _ _ _
  rw [e] at h1
  rw [Nat.mul_comm W H]
  omega
theorem half_left {W H y i : Nat} {acc l : List Px} {r : List Int} (h : Half W H acc r l) (ha : acc.length = y * W) (hr : r.length = i) (hi : i < 2 * W) (k : Int) (hk : k < i) : byteL W l (y : Int) k = atI r k := by
  unfold byteL atI
  by_cases h0 : k < 0
  · rw [if_pos (.inr (.inl h0)), if_pos h0]
  · rw [if_neg (by omega), if_neg h0, h, Int.toNat_natCast]
    have e : (flatPx acc).length = y * (2 * W) := by rw [flatPx_len, ha]; exact (Nat.mul_left_comm _ _ _).symm ▸ rfl
    rw [List.append_assoc, List.getD_eq_getElem?_getD, List.getD_eq_getElem?_getD, List.getElem?_append_right (by omega), e, Nat.add_sub_cancel_left, List.getElem?_append_left (by omega)]
theorem half_up {W H y : Nat} {acc l : List Px} {r : List Int} (h : Half W H acc r l) (ha : acc.length = y * W) (hW : 0 < W) (k : Int) : byteL W l ((y : Int) - 1) k = atI (upI W acc y) k := by
  rw [← byteL_up]
  unfold byteL
  by_cases h0 : (y : Int) - 1 < 0 ∨ k < 0 ∨ 2 * (W : Int) ≤ k
  · rw [if_pos h0, if_pos h0]
  · rw [if_neg h0, if_neg h0, h]
    have e : (flatPx acc).length = y * (2 * W) := by rw [flatPx_len, ha]; exact (Nat.mul_left_comm _ _ _).symm ▸ rfl
    have e2 : ((y : Int) - 1).toNat * (2 * W) + k.toNat < y * (2 * W) := by
      obtain ⟨m, rfl⟩ : ∃ m, y = m + 1 := ⟨y - 1, by omega⟩
      rw [show ((m + 1 : Nat) : Int) - 1 = (m : Int) by omega, Int.toNat_natCast, Nat.add_mul]
      omega
    rw [List.append_assoc, List.getD_eq_getElem?_getD, List.getD_eq_getElem?_getD, List.getElem?_append_left (by omega)]
/-- pixel k with its shade, or its cover, turned -/
def putByte (l : List Px) (k : Nat) (odd : Bool) (v : Int) : List Px := l.set k (if odd then ((l.getD k (0, 0)).1, v) else (v, (l.getD k (0, 0)).2))
theorem putByte_len (l : List Px) (k : Nat) (odd : Bool) (v : Int) : (putByte l k odd v).length = l.length := by unfold putByte; simp
theorem putByte_flat : ∀ (l : List Px) (k : Nat) (odd : Bool) (v : Int), k < l.length → flatPx (putByte l k odd v) = (flatPx l).set (2 * k + if odd then 1 else 0) v
  | [], k, odd, v, h => by simp at h
  | a :: l, 0, odd, v, _ => by
    rw [show flatPx (a :: l) = a.1 :: a.2 :: flatPx l from rfl]
    unfold putByte
    cases odd
    · rfl
    · rfl
  | a :: l, k + 1, odd, v, h => by
    have ih := putByte_flat l k odd v (by simpa using h)
    have e : putByte (a :: l) (k + 1) odd v = a :: putByte l k odd v := by
      unfold putByte; simp
    rw [e, show flatPx (a :: putByte l k odd v) = a.1 :: a.2 :: flatPx (putByte l k odd v) from rfl, ih, show flatPx (a :: l) = a.1 :: a.2 :: flatPx l from rfl]
    rw [show 2 * (k + 1) + (if odd then 1 else 0) = (2 * k + if odd then 1 else 0) + 1 + 1 by omega, List.set_cons_succ, List.set_cons_succ]
theorem half_step {W H y i : Nat} {acc l : List Px} {r : List Int} {v : Int} (h : Half W H acc r l) (ha : acc.length = y * W) (hr : r.length = i) (hi : i < 2 * W) (hy : y < H) :
    Half W H acc (r ++ [v]) (putByte l (y * W + i / 2) (decide (i % 2 = 1)) v) := by
  have hl := h.len ha (by omega) hy
  have hk : y * W + i / 2 < l.length := by
    rw [hl]
    have : (y + 1) * W ≤ H * W := Nat.mul_le_mul_right _ hy
    rw [Nat.add_mul] at this
    rw [Nat.mul_comm W H]
    omega
  unfold Half
  rw [putByte_flat _ _ _ _ hk, h]
  have e : (flatPx acc).length = y * (2 * W) := by rw [flatPx_len, ha]; exact (Nat.mul_left_comm _ _ _).symm ▸ rfl
  have e0 : y * (2 * W) = 2 * (y * W) := Nat.mul_left_comm _ _ _
  have e1 : 2 * (y * W + i / 2) + (if decide (i % 2 = 1) = true then 1 else 0) = (flatPx acc ++ r).length := by
    rw [List.length_append, e, hr, e0]
    by_cases h2 : i % 2 = 1
    · rw [if_pos (by simp [h2])]; omega
    · rw [if_neg (by simp [h2])]; omega
  have e3 : (flatPx acc).length + i < H * (2 * W) := by
    rw [e]
    have : (y + 1) * (2 * W) ≤ H * (2 * W) := Nat.mul_le_mul_right _ hy
    rw [Nat.add_mul] at this
    omega
  rw [e1, List.set_append_right _ _ (Nat.le_refl _), Nat.sub_self]
  obtain ⟨m, hm⟩ : ∃ m, H * (2 * W) - (flatPx acc).length - r.length = m + 1 := ⟨H * (2 * W) - (flatPx acc).length - r.length - 1, by omega⟩
  rw [hm, List.replicate_succ, List.set_cons_zero, List.length_append, List.length_singleton, show H * (2 * W) - (flatPx acc).length - (r.length + 1) = m by omega]
  simp
theorem half_start (W H : Nat) : Half W H [] [] (List.replicate (W * H) (0, 0)) := by
  unfold Half
  have e : ∀ n, flatPx (List.replicate n ((0, 0) : Px)) = List.replicate (2 * n) 0 := by
    intro n
    induction n with
    | zero => rfl
    | succ n ih =>
      rw [List.replicate_succ, show flatPx ((0, 0) :: List.replicate n ((0, 0) : Px)) = 0 :: 0 :: flatPx (List.replicate n ((0, 0) : Px)) from rfl, ih, show 2 * (n + 1) = 2 * n + 1 + 1 by omega]
      rfl
  rw [e]
  simp [flatPx]
  rw [Nat.mul_left_comm H 2 W, Nat.mul_comm W H]
theorem half_row {W H : Nat} {acc l : List Px} {r : List Int} (h : Half W H acc r l) (hr : r.length = 2 * W) : Half W H (acc ++ pairsI r) [] l := by
  have e := (pairs_len r W hr).2
  unfold Half at h ⊢
  rw [h, flatPx_append, e, List.append_nil, List.length_append, List.length_nil]
  congr 2
  omega
theorem half_done {W H : Nat} {acc l : List Px} (h : Half W H acc [] l) (ha : acc.length = H * W) : l = acc := by
  apply flat_inj
  unfold Half at h
  rw [h, List.append_nil, flatPx_len, ha, show H * (2 * W) = 2 * (H * W) from Nat.mul_left_comm _ _ _]
  simp
/-! ## bytes read: how it ends -/
theorem picOf_short {s : List UInt8} (h : s.length < 2) : picOf s = (noPic, 4) := by unfold picOf; rw [if_pos h]
theorem picOf_bound {s : List UInt8} (h : ¬ s.length < 2) (hb : ¬ (1 ≤ (s.getD 0 0).toNat ∧ (s.getD 0 0).toNat ≤ 8 ∧ 1 ≤ (s.getD 1 0).toNat ∧ (s.getD 1 0).toNat ≤ 8)) : picOf s = (noPic, 1) := by
  unfold picOf; rw [if_neg h, if_pos hb]
theorem picOf_unp {s : List UInt8} {W H : Nat} (h : ¬ s.length < 2) (hW : (s.getD 0 0).toNat = W) (hH : (s.getD 1 0).toNat = H) (hb : 1 ≤ W ∧ W ≤ 8 ∧ 1 ≤ H ∧ H ≤ 8) {t : List UInt8} {f : Nat} (hu : unpack (s.drop 2) ((H * (1 + 2 * W) : Nat) : Int) = (t, f)) (hf : f ≠ 0) : picOf s = (noPic, f) := by
  subst hW hH
  unfold picOf
  rw [if_neg h, if_neg (by omega)]
  simp only [hu]
  rw [if_pos hf]
theorem picOf_less {s : List UInt8} {W H : Nat} (h : ¬ s.length < 2) (hW : (s.getD 0 0).toNat = W) (hH : (s.getD 1 0).toNat = H) (hb : 1 ≤ W ∧ W ≤ 8 ∧ 1 ≤ H ∧ H ≤ 8) {t : List UInt8} (hu : unpack (s.drop 2) ((H * (1 + 2 * W) : Nat) : Int) = (t, 0)) (hl : t.length ≠ H * (1 + 2 * W)) : picOf s = (noPic, 4) := by
  subst hW hH
  unfold picOf
  rw [if_neg h, if_neg (by omega)]
  simp only [hu]
  rw [if_neg (by simp), if_pos hl]
theorem picOf_none {s : List UInt8} {W H : Nat} (h : ¬ s.length < 2) (hW : (s.getD 0 0).toNat = W) (hH : (s.getD 1 0).toNat = H) (hb : 1 ≤ W ∧ W ≤ 8 ∧ 1 ≤ H ∧ H ≤ 8) {t : List UInt8} (hu : unpack (s.drop 2) ((H * (1 + 2 * W) : Nat) : Int) = (t, 0)) (hl : t.length = H * (1 + 2 * W)) (hp : parseGo W H t [] [] = none) : picOf s = (noPic, 4) := by
  subst hW hH
  unfold picOf
  rw [if_neg h, if_neg (by omega)]
  simp only [hu]
  rw [if_neg (by simp), if_neg (by omega)]
  simp only [hp]
theorem picOf_some {s : List UInt8} {W H : Nat} (h : ¬ s.length < 2) (hW : (s.getD 0 0).toNat = W) (hH : (s.getD 1 0).toNat = H) (hb : 1 ≤ W ∧ W ≤ 8 ∧ 1 ≤ H ∧ H ≤ 8) {t : List UInt8} (hu : unpack (s.drop 2) ((H * (1 + 2 * W) : Nat) : Int) = (t, 0)) (hl : t.length = H * (1 + 2 * W)) {l : List Px} (hp : parseGo W H t [] [] = some l) : picOf s = (⟨W, H, l⟩, 0) := by
  subst hW hH
  unfold picOf
  rw [if_neg h, if_neg (by omega)]
  simp only [hu]
  rw [if_neg (by simp), if_neg (by omega)]
  simp only [hp]
/-! ## writing: the best way -/
theorem bestI_less {r up : List Int} {n w : Nat} (h : (pack (toldI r up (w + 1) n)).length < (pack (bestI r up n w).2).length) : bestI r up n (w + 1) = (w + 1, toldI r up (w + 1) n) := by
  show (if _ then _ else _) = _
  rw [if_pos h]
theorem bestI_more {r up : List Int} {n w : Nat} (h : ¬ (pack (toldI r up (w + 1) n)).length < (pack (bestI r up n w).2).length) : bestI r up n (w + 1) = bestI r up n w := by
  show (if _ then _ else _) = _
  rw [if_neg h]
/-- what the reference tells of a byte: 512 more, of 256 -/
theorem byteI_512 {n : Int} (_h : -512 ≤ n) : byteI (n + 512) = byteI n := by
  unfold byteI
  have : (n + 512) % 256 = n % 256 := by omega
  rw [this]
end Fb

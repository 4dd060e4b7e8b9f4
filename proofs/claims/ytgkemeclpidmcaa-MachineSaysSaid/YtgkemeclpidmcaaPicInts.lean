/- Plain laws of packing: what the program and the reference both come to. No conditions. Plain laws: what is packed is unpacked as it was. No conditions. Pictures as bytes, in plain Lean: rows of bytes, what is told of a row, the shortest way; and back. Conditions: those of each lemma. picture.at, the guesses and their closures return what the plain laws say. Conditions: bounds on lengths and bytes. -/
import Derived.Test.YtgkemeclpidmcaaPlainA
namespace Fb
def runLen (c : UInt8) : Nat → List UInt8 → Nat
  | 0, _ => 0
  | _ + 1, [] => 0
  | k + 1, d :: l => if d = c then runLen c k l + 1 else 0
theorem runLen_le (c : UInt8) : ∀ (k : Nat) (l : List UInt8), runLen c k l ≤ k ∧ runLen c k l ≤ l.length
  | 0, l => by simp [runLen]
  | k + 1, [] => by simp [runLen]
  | k + 1, d :: l => by
    have := runLen_le c k l
    unfold runLen
    split <;> simp <;> omega
/-- m equal bytes, then an end: the limit, another byte, or none. -/
theorem runLen_eq (c : UInt8) : ∀ (m k : Nat) (l : List UInt8), m ≤ k → m ≤ l.length → (∀ j (h : j < l.length), j < m → l[j] = c) → (m = k ∨ m = l.length ∨ ∃ h : m < l.length, l[m] ≠ c) → runLen c k l = m
  | 0, 0, l, _, _, _, _ => by simp [runLen]
  | 0, k + 1, [], _, _, _, _ => by simp [runLen]
  | 0, k + 1, d :: l, _, _, _, h => by
    rcases h with h | h | ⟨_, h⟩
    · omega
    · simp at h
    · simp at h; simp [runLen, h]
  | m + 1, 0, l, h, _, _, _ => by omega
  | m + 1, k + 1, [], _, h, _, _ => by simp at h
  | m + 1, k + 1, d :: l, h1, h2, h3, h4 => by
    have hd : d = c := h3 0 (by simp) (by omega)
    unfold runLen
    rw [if_pos hd, runLen_eq c m k l (by omega) (by simpa using h2) (fun j hj hm => by have := h3 (j + 1) (by simpa using hj) (by omega); simpa using this)]
    rcases h4 with h | h | ⟨hh, h⟩
    · left; omega
    · right; left; simpa using h
    · right; right; exact ⟨by simpa using hh, by simpa using h⟩
def packF : Nat → List UInt8 → List UInt8
  | 0, _ => []
  | _ + 1, [] => []
  | f + 1, c :: l => UInt8.ofNat (runLen c 254 l + 1) :: c :: packF f (l.drop (runLen c 254 l))
def pack (l : List UInt8) : List UInt8 := packF l.length l
theorem packF_fuel : ∀ (f g : Nat) (l : List UInt8), l.length ≤ f → l.length ≤ g → packF f l = packF g l
  | 0, 0, _, _, _ => rfl
  | 0, g + 1, [], _, _ => rfl
  | 0, g + 1, c :: l, h, _ => by simp at h
  | f + 1, 0, [], _, _ => rfl
  | f + 1, 0, c :: l, _, h => by simp at h
  | f + 1, g + 1, [], _, _ => rfl
  | f + 1, g + 1, c :: l, h, h' => by
    simp only [packF]
    rw [packF_fuel f g (l.drop (runLen c 254 l)) (by simp at h ⊢; omega) (by simp at h' ⊢; omega)]
theorem pack_nil : pack [] = [] := rfl
theorem pack_cons (c : UInt8) (l : List UInt8) : pack (c :: l) = UInt8.ofNat (runLen c 254 l + 1) :: c :: pack (l.drop (runLen c 254 l)) := by
  unfold pack
  simp only [List.length_cons, packF]
  rw [packF_fuel _ (l.drop (runLen c 254 l)).length _ (by simp) (Nat.le_refl _)]
/-- n bytes c, then an end. -/
theorem pack_run (l : List UInt8) (k n : Nat) (hn : 1 ≤ n) (hk : k + n ≤ l.length) (h255 : n ≤ 255) (hs : ∀ j (h : j < n), l[k + j] = l[k]) (he : n = 255 ∨ k + n = l.length ∨ ∃ h : k + n < l.length, l[k + n] ≠ l[k]) :
    pack (l.drop k) = UInt8.ofNat n :: l[k] :: pack (l.drop (k + n)) := by
  rw [List.drop_eq_getElem_cons (by omega), pack_cons]
  have hr : runLen l[k] 254 (l.drop (k + 1)) = n - 1 := by
    refine runLen_eq _ _ _ _ (by omega) (by simp; omega) (fun j hj hm => ?_) ?_
    · rw [List.getElem_drop]
      have := hs (j + 1) (by omega)
      rw [← this]; congr 1; omega
    · rcases he with h | h | ⟨hh, h⟩
      · left; omega
      · right; left; simp; omega
      · right; right
        refine ⟨by simp; omega, ?_⟩
        rw [List.getElem_drop]
        intro e; apply h; rw [← e]; congr 1; omega
  rw [hr]
  simp only [List.drop_drop]
  congr 1
  · congr 1; omega
  · congr 2; congr 1; omega
theorem pack_len : ∀ (n : Nat) (l : List UInt8), l.length ≤ n → (pack l).length ≤ 2 * l.length
  | 0, [], _ => by simp [pack_nil]
  | 0, c :: l, h => by simp at h
  | n + 1, [], _ => by simp [pack_nil]
  | n + 1, c :: l, h => by
    rw [pack_cons]
    have := pack_len n (l.drop (runLen c 254 l)) (by simp at h ⊢; omega)
    simp at this ⊢; omega

def unpackGo : List UInt8 → List UInt8 → Int → List UInt8 × Nat
  | [], acc, _ => (acc, 0)
  | [_], _, _ => ([], 4)
  | n :: c :: l, acc, most => if n.toNat = 0 then ([], 4) else if (acc.length : Int) + n.toNat > most then ([], 2) else unpackGo l (acc ++ List.replicate n.toNat c) most
def unpack (l : List UInt8) (most : Int) : List UInt8 × Nat := if l.length % 2 = 1 then ([], 4) else unpackGo l [] most
theorem unpackGo_step (l : List UInt8) (k : Nat) (acc : List UInt8) (most : Int) (h : k + 1 < l.length) :
    unpackGo (l.drop k) acc most = if l[k].toNat = 0 then ([], 4) else if (acc.length : Int) + l[k].toNat > most then ([], 2) else unpackGo (l.drop (k + 2)) (acc ++ List.replicate l[k].toNat l[k + 1]) most := by
  rw [List.drop_eq_getElem_cons (by omega), List.drop_eq_getElem_cons (by omega)]
  rfl
end Fb
namespace Fb
/-- the bytes k .. k + m - 1 are the same -/
def SameRun (L : List UInt8) (k m : Nat) : Prop := ∀ j, j < m → L[k + j]? = L[k]?
theorem SameRun.one (L : List UInt8) (k : Nat) : SameRun L k 1 := fun j h => by
  have e : j = 0 := by omega
  subst e
  rfl
theorem SameRun.succ {L : List UInt8} {k m : Nat} (h : SameRun L k m) (e : L[k + m]? = L[k]?) : SameRun L k (m + 1) := fun j hj => by
  by_cases hm : j = m
  · subst hm; exact e
  · exact h j (by omega)
/-- so much is done: B is told, the rest is from k on -/
def PackInv (L B : List UInt8) (k : Nat) : Prop := B ++ pack (L.drop k) = pack L
theorem PackInv.start (L : List UInt8) : PackInv L [] 0 := by simp [PackInv]
theorem PackInv.done {L B : List UInt8} {k : Nat} (h : PackInv L B k) (hk : L.length ≤ k) : B = pack L := by
  unfold PackInv at h
  rw [List.drop_of_length_le hk, pack_nil, List.append_nil] at h
  exact h
theorem PackInv.step {L B : List UInt8} {k m : Nat} (h : PackInv L B k) (h1 : 1 ≤ m) (hk : k + m ≤ L.length) (h255 : m ≤ 255) (hs : SameRun L k m) (he : m = 255 ∨ k + m = L.length ∨ (k + m < L.length ∧ L[k + m]? ≠ L[k]?)) :
    PackInv L (B ++ [UInt8.ofNat m, L[k]'(by omega)]) (k + m) := by
  unfold PackInv at h ⊢
  have hs' : ∀ j (h : j < m), L[k + j]'(by omega) = L[k]'(by omega) := fun j hj => by
    have := hs j hj
    rw [List.getElem?_eq_getElem (by omega), List.getElem?_eq_getElem (by omega)] at this
    simpa using this
  rw [← h, pack_run L k m h1 hk h255 hs' ?_]
  · simp
  · rcases he with h | h | ⟨h, hne⟩
    · exact .inl h
    · exact .inr (.inl h)
    · refine .inr (.inr ⟨h, fun e => hne ?_⟩)
      rw [List.getElem?_eq_getElem h, List.getElem?_eq_getElem (by omega), e]
end Fb
namespace Fb
theorem SameRun.last {L : List UInt8} {j n : Nat} (h : SameRun L j (n + 1)) : L[j + n]? = L[j]? := h n (by omega)
/-- the reference's flush: the byte that is told stands last -/
theorem PackInv.flush {L B : List UInt8} {j n : Nat} (h : PackInv L B j) (hk : j + n < L.length) (h255 : n + 1 ≤ 255) (hs : SameRun L j (n + 1)) (he : j + n + 1 = L.length ∨ (j + n + 1 < L.length ∧ L[j + n + 1]? ≠ L[j + n]?) ∨ n + 1 = 255) :
    PackInv L (B ++ [UInt8.ofNat (n + 1), L[j + n]]) (j + n + 1) := by
  have hl := hs.last
  have h2 := h.step (m := n + 1) (by omega) (by omega) h255 hs (by
    rcases he with h | ⟨h, hne⟩ | h
    · right; left; omega
    · right; right; exact ⟨by omega, by rw [← hl]; exact hne⟩
    · left; exact h)
  have e : L[j + n] = L[j]'(by omega) := by
    rw [List.getElem?_eq_getElem hk, List.getElem?_eq_getElem (by omega)] at hl
    simpa using hl
  rw [e]
  exact h2
theorem SameRun.more {L : List UInt8} {j n : Nat} (h : SameRun L j (n + 1)) (e : L[j + n + 1]? = L[j + n]?) : SameRun L j (n + 2) := by
  have := h.succ (by rw [← h.last, ← e]; rfl)
  exact this
end Fb

namespace Fb
/-- so much is unpacked: B; the rest is from k on -/
def UnpInv (L B : List UInt8) (k : Nat) (most : Int) : Prop := unpackGo (L.drop k) B most = unpack L most
theorem UnpInv.start (L : List UInt8) (most : Int) (h : L.length % 2 = 0) : UnpInv L [] 0 most := by
  unfold UnpInv unpack
  rw [if_neg (by omega)]; rfl
theorem unpack_odd {L : List UInt8} {most : Int} (h : L.length % 2 = 1) : unpack L most = ([], 4) := by unfold unpack; rw [if_pos h]
theorem UnpInv.done {L B : List UInt8} {k : Nat} {most : Int} (h : UnpInv L B k most) (hk : L.length ≤ k) : unpack L most = (B, 0) := by
  unfold UnpInv at h
  rw [← h, List.drop_of_length_le hk]; rfl
theorem UnpInv.zero {L B : List UInt8} {k : Nat} {most : Int} (h : UnpInv L B k most) (hk : k + 1 < L.length) (h0 : L[k].toNat = 0) : unpack L most = ([], 4) := by
  unfold UnpInv at h
  rw [← h, unpackGo_step L k B most hk, if_pos h0]
theorem UnpInv.much {L B : List UInt8} {k : Nat} {most : Int} (h : UnpInv L B k most) (hk : k + 1 < L.length) (h0 : L[k].toNat ≠ 0) (h1 : most < (B.length : Int) + L[k].toNat) : unpack L most = ([], 2) := by
  unfold UnpInv at h
  rw [← h, unpackGo_step L k B most hk, if_neg h0, if_pos (by omega)]
theorem UnpInv.step {L B : List UInt8} {k : Nat} {most : Int} (h : UnpInv L B k most) (hk : k + 1 < L.length) (h0 : L[k].toNat ≠ 0) (h1 : (B.length : Int) + L[k].toNat ≤ most) : UnpInv L (B ++ List.replicate L[k].toNat L[k + 1]) (k + 2) most := by
  unfold UnpInv at h ⊢
  rw [← h, unpackGo_step L k B most hk, if_neg h0, if_neg (by omega)]
theorem unpackGo_len : ∀ (n : Nat) (L B : List UInt8) (most : Int), L.length ≤ n → (B.length : Int) ≤ max 0 most → ((unpackGo L B most).1.length : Int) ≤ max 0 most
  | _, [], B, most, _, h => by simpa [unpackGo] using h
  | _, [_], B, most, _, h => by simp [unpackGo]; omega
  | 0, a :: b :: l, B, most, hn, h => by simp at hn
  | n + 1, a :: b :: l, B, most, hn, h => by
    unfold unpackGo
    split
    · simp; omega
    · split
      · simp; omega
      · exact unpackGo_len n l _ most (by simp at hn; omega) (by simp; omega)
theorem unpack_len (L : List UInt8) (most : Int) : ((unpack L most).1.length : Int) ≤ max 0 most := by
  unfold unpack
  split
  · simp; omega
  · exact unpackGo_len _ L [] most (Nat.le_refl _) (by simp; omega)
theorem rep_succ (B : List UInt8) (m : Nat) (c : UInt8) : B ++ List.replicate (m + 1) c = B ++ List.replicate m c ++ [c] := by
  rw [List.replicate_succ']; simp
end Fb
namespace Fb
theorem runLen_take (c : UInt8) : ∀ (k : Nat) (l : List UInt8), l = List.replicate (runLen c k l) c ++ l.drop (runLen c k l)
  | 0, l => by simp [runLen]
  | k + 1, [] => by simp [runLen]
  | k + 1, d :: l => by
    unfold runLen
    split
    · rename_i h
      subst h
      have := runLen_take d k l
      rw [List.replicate_succ, List.drop_succ_cons, List.cons_append, ← this]
    · simp
theorem pack_even : ∀ (n : Nat) (l : List UInt8), l.length ≤ n → (pack l).length % 2 = 0
  | _, [], _ => by simp [pack_nil]
  | 0, c :: l, h => by simp at h
  | n + 1, c :: l, h => by
    rw [pack_cons]
    have := pack_even n (l.drop (runLen c 254 l)) (by simp at h ⊢; omega)
    simp at this ⊢; omega
theorem unpackGo_pack : ∀ (n : Nat) (l acc : List UInt8) (most : Int), l.length ≤ n → (acc.length : Int) + l.length ≤ most → unpackGo (pack l) acc most = (acc ++ l, 0)
  | _, [], acc, most, _, _ => by simp [pack_nil, unpackGo]
  | 0, c :: l, _, _, h, _ => by simp at h
  | n + 1, c :: l, acc, most, h, hm => by
    have hr := runLen_le c 254 l
    have ht := runLen_take c 254 l
    rw [pack_cons]
    generalize runLen c 254 l = m at *
    have h1 : (UInt8.ofNat (m + 1)).toNat = m + 1 := by simp [UInt8.toNat_ofNat']; omega
    unfold unpackGo
    rw [h1, if_neg (by omega), if_neg (by simp at hm; omega), unpackGo_pack n _ _ most (by simp at h ⊢; omega) (by simp at hm ⊢; omega)]
    rw [List.append_assoc]
    congr 2
    rw [List.replicate_succ, List.cons_append, ← ht]
theorem unpack_pack (l : List UInt8) : unpack (pack l) l.length = (l, 0) := by
  unfold unpack
  rw [if_neg (by have := pack_even _ l (Nat.le_refl _); omega), unpackGo_pack _ l [] _ (Nat.le_refl _) (by simp)]
  simp
theorem unpackGo_less : ∀ (n : Nat) (l acc : List UInt8) (most : Int), l.length ≤ n → (acc.length : Int) ≤ most → most < (acc.length : Int) + l.length → unpackGo (pack l) acc most = ([], 2)
  | _, [], acc, most, _, h1, h2 => by simp at h2; omega
  | 0, c :: l, _, _, h, _, _ => by simp at h
  | n + 1, c :: l, acc, most, h, ha, hm => by
    have hr := runLen_le c 254 l
    rw [pack_cons]
    generalize runLen c 254 l = m at *
    have h1 : (UInt8.ofNat (m + 1)).toNat = m + 1 := by simp [UInt8.toNat_ofNat']; omega
    unfold unpackGo
    rw [h1, if_neg (by omega)]
    by_cases hc : (acc.length : Int) + ((m + 1 : Nat) : Int) > most
    · rw [if_pos hc]
    · rw [if_neg hc, unpackGo_less n _ _ most (by simp at h ⊢; omega) (by simp; omega) (by simp at hm ⊢; omega)]
theorem unpack_less (l : List UInt8) (h : l ≠ []) : unpack (pack l) ((l.length : Int) - 1) = ([], 2) := by
  unfold unpack
  have hl : 0 < l.length := List.length_pos_iff.2 h
  rw [if_neg (by have := pack_even _ l (Nat.le_refl _); omega), unpackGo_less _ l [] _ (Nat.le_refl _) (by simp; omega) (by simp; omega)]
end Fb
namespace Fb
/-- shade and cover of each pixel, one behind the other -/
def flatPx (l : List Px) : List Int := l.flatMap fun p => [p.1, p.2]
theorem flatPx_len (l : List Px) : (flatPx l).length = 2 * l.length := by
  induction l with
  | nil => rfl
  | cons a l ih => simp only [flatPx, List.flatMap_cons, List.length_append, List.length_cons, List.length_nil] at ih ⊢; omega
theorem flatPx_append (a b : List Px) : flatPx (a ++ b) = flatPx a ++ flatPx b := by simp [flatPx]
theorem flatPx_at : ∀ (l : List Px) (k : Nat) (h : k < l.length), (flatPx l)[2 * k]? = some l[k].1 ∧ (flatPx l)[2 * k + 1]? = some l[k].2
  | a :: l, 0, _ => by simp [flatPx]
  | a :: l, k + 1, h => by
    have ih := flatPx_at l k (by simpa using h)
    have e : flatPx (a :: l) = a.1 :: a.2 :: flatPx l := rfl
    rw [e]
    simp only [Nat.mul_add, Nat.mul_one, List.getElem_cons_succ]
    exact ⟨by simpa using ih.1, by simpa using ih.2⟩
/-- row y of a picture of W columns -/
def rowI (W : Nat) (l : List Px) (y : Nat) : List Int := flatPx ((l.drop (y * W)).take W)
/-- place i of a row; 0: it isn't in it -/
def atI (r : List Int) (i : Int) : Int := if i < 0 then 0 else r.getD i.toNat 0
theorem atI_neg {r : List Int} {i : Int} (h : i < 0) : atI r i = 0 := if_pos h
theorem atI_big {r : List Int} {i : Int} (h : (r.length : Int) ≤ i) : atI r i = 0 := by
  unfold atI
  rw [if_neg (by omega), List.getD_eq_getElem?_getD, List.getElem?_eq_none (by omega)]
  rfl
theorem atI_at {r : List Int} {k : Nat} (h : k < r.length) : atI r (k : Int) = r[k] := by
  unfold atI
  rw [if_neg (by omega), Int.toNat_natCast, List.getD_eq_getElem?_getD, List.getElem?_eq_getElem h, Option.getD_some]
/-- what is guessed of a byte, by the one on its left and the one above it -/
def guessI (way : Nat) (left up : Int) : Int := match way with | 1 => left | 2 => up | 3 => (left + up) / 2 | _ => 0
/-- a byte, of whatever number -/
def byteI (n : Int) : UInt8 := UInt8.ofNat (n % 256).toNat
theorem byteI_nat (n : Int) : ((byteI n).toNat : Int) = n % 256 := by
  unfold byteI
  have h1 : 0 ≤ n % 256 := Int.emod_nonneg _ (by omega)
  have h2 : n % 256 < 256 := Int.emod_lt_of_pos _ (by omega)
  rw [UInt8.toNat_ofNat']
  omega
/-- what is told of a row's first k places, in a way -/
def toldI (r up : List Int) (way : Nat) (k : Nat) : List UInt8 := (List.range k).map fun i : Nat => byteI (atI r i - guessI way (atI r ((i : Int) - 2)) (atI up i))
theorem toldI_succ (r up : List Int) (way k : Nat) : toldI r up way (k + 1) = toldI r up way k ++ [byteI (atI r k - guessI way (atI r ((k : Int) - 2)) (atI up k))] := by
  unfold toldI; rw [List.range_succ, List.map_append]; rfl
theorem toldI_len (r up : List Int) (way k : Nat) : (toldI r up way k).length = k := by unfold toldI; simp
/-- the best of the ways 0 .. w, and what is told in it -/
def bestI (r up : List Int) (n : Nat) : Nat → Nat × List UInt8
  | 0 => (0, toldI r up 0 n)
  | w + 1 => if (pack (toldI r up (w + 1) n)).length < (pack (bestI r up n w).2).length then (w + 1, toldI r up (w + 1) n) else bestI r up n w
/-- rows of a picture told, one behind the other: y rows -/
def rowsI (W : Nat) (l : List Px) : Nat → List UInt8
  | 0 => []
  | y + 1 => let up := if y = 0 then [] else rowI W l (y - 1)
    let b := bestI (rowI W l y) up (2 * W) 3
    rowsI W l y ++ (UInt8.ofNat b.1 :: b.2)
/-- a picture's bytes -/
def picBytes (p : FPic) : List UInt8 := [UInt8.ofNat p.w.toNat, UInt8.ofNat p.h.toNat] ++ pack (rowsI p.w.toNat p.p p.h.toNat)
/-- a row's first k places, of what was told -/
def rowOf (s : List UInt8) (up : List Int) (way : Nat) : Nat → List Int
  | 0 => []
  | k + 1 => let r := rowOf s up way k
    r ++ [(((s.getD k 0).toNat : Int) + guessI way (atI r ((k : Int) - 2)) (atI up k)) % 256]
theorem rowOf_len (s : List UInt8) (up : List Int) (way : Nat) : ∀ k, (rowOf s up way k).length = k
  | 0 => rfl
  | k + 1 => by simp [rowOf, rowOf_len s up way k]
/-! ## back -/
def pairsI : List Int → List Px
  | a :: b :: r => (a, b) :: pairsI r
  | _ => []
theorem pairs_flat : ∀ (l : List Px), pairsI (flatPx l) = l
  | [] => rfl
  | a :: l => by
    have e : flatPx (a :: l) = a.1 :: a.2 :: flatPx l := rfl
    rw [e]
    show (a.1, a.2) :: pairsI (flatPx l) = a :: l
    rw [pairs_flat l]
/-- so many rows that were told, read: none where a way is no way -/
def parseGo (W : Nat) : Nat → List UInt8 → List Int → List Px → Option (List Px)
  | 0, _, _, acc => some acc
  | h + 1, t, up, acc =>
    if 4 ≤ (t.getD 0 0).toNat then none
    else parseGo W h (t.drop (1 + 2 * W)) (rowOf (t.drop 1) up (t.getD 0 0).toNat (2 * W)) (acc ++ pairsI (rowOf (t.drop 1) up (t.getD 0 0).toNat (2 * W)))
def noPic : FPic := ⟨0, 0, []⟩
/-- bytes read as a picture, and what is wrong -/
def picOf (s : List UInt8) : FPic × Nat :=
  if s.length < 2 then (noPic, 4)
  else if ¬ (1 ≤ (s.getD 0 0).toNat ∧ (s.getD 0 0).toNat ≤ 8 ∧ 1 ≤ (s.getD 1 0).toNat ∧ (s.getD 1 0).toNat ≤ 8) then (noPic, 1)
  else
    let W := (s.getD 0 0).toNat
    let H := (s.getD 1 0).toNat
    let u := unpack (s.drop 2) ((H * (1 + 2 * W) : Nat) : Int)
    if u.2 ≠ 0 then (noPic, u.2)
    else if u.1.length ≠ H * (1 + 2 * W) then (noPic, 4)
    else match parseGo W H u.1 [] [] with
      | none => (noPic, 4)
      | some l => (⟨W, H, l⟩, 0)
/-- a row is read as it was told -/
theorem row_back {r up : List Int} {way : Nat} (hr : ∀ v ∈ r, 0 ≤ v ∧ v ≤ 255) : ∀ k, k ≤ r.length → rowOf (toldI r up way r.length) up way k = r.take k
  | 0, _ => rfl
  | k + 1, hk => by
    have ih := row_back hr (up := up) (way := way) k (by omega)
    have hk' : k < r.length := by omega
    show (rowOf _ up way k ++ [_]) = _
    rw [ih]
    have e1 : atI (r.take k) ((k : Int) - 2) = atI r ((k : Int) - 2) := by
      by_cases h : (k : Int) - 2 < 0
      · rw [atI_neg h, atI_neg h]
      · obtain ⟨m, hm⟩ : ∃ m : Nat, (k : Int) - 2 = (m : Int) := ⟨((k : Int) - 2).toNat, by omega⟩
        rw [hm, atI_at (by rw [List.length_take]; omega), atI_at (by omega), List.getElem_take]
    have e2 : (toldI r up way r.length).getD k 0 = byteI (r[k] - guessI way (atI r ((k : Int) - 2)) (atI up k)) := by
      rw [List.getD_eq_getElem?_getD]
      unfold toldI
      rw [List.getElem?_map, List.getElem?_range hk', Option.map_some, Option.getD_some, atI_at hk']
    rw [e1, e2, byteI_nat, List.take_succ_eq_append_getElem hk']
    congr 2
    have h1 := hr r[k] (List.getElem_mem hk')
    generalize guessI way (atI r ((k : Int) - 2)) (atI up k) = g
    omega
end Fb
namespace Fb
open Go Go.Proofs Go.RowKit Go.Sort
/-- a slice of ints reads as r -/
def Ints (w : World) (A : Option Addr) (n : Nat) (r : List Int) : Prop := r.length = n ∧ Row w A n 1 (r.map (Value.int .i64))
theorem Ints.below {w w' : World} {A : Option Addr} {n : Nat} {r : List Int} (h : Ints w A n r) (hb : Below w.heap.size w w') : Ints w' A n r := ⟨h.1, h.2.below hb⟩
theorem Ints.cell {w : World} {A : Option Addr} {n k : Nat} {r : List Int} (h : Ints w A n r) (hk : k < r.length) : ∃ b off, A = some ⟨b, off, none⟩ ∧ b < w.heap.size ∧ w.cell? ⟨b, off + k, none⟩ = some (.int .i64 r[k]) := by
  obtain ⟨b, off, e, hb, hc⟩ := h.2.2 (by have := h.1; omega)
  exact ⟨b, off, e, hb, hc k _ (by rw [List.getElem?_map, List.getElem?_eq_getElem hk]; rfl)⟩
end Fb

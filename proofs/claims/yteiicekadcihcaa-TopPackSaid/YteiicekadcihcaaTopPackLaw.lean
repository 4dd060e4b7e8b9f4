/- Plain laws: what is packed is unpacked as it was. No conditions. -/
import Derived.Test.YteiicekadcihcaaPackLaw
namespace Fb
theorem runLen_take (c : UInt8) : ∀ (k : Nat) (l : List UInt8), l = List.replicate (runLen c k l) c ++ l.drop (runLen c k l)
  | 0, l => by simp [runLen]
  | k + 1, [] => by simp [runLen]
  | k + 1, d :: l => by
    unfold runLen
    split
    · rename_i h
      subst h
      have := runLen_take d k l
      rw [List.replicate_succ, List.drop_succ_cons, List.cons_append, ← this]
    · simp
theorem pack_even : ∀ (n : Nat) (l : List UInt8), l.length ≤ n → (pack l).length % 2 = 0
  | _, [], _ => by simp [pack_nil]
  | 0, c :: l, h => by simp at h
  | n + 1, c :: l, h => by
    rw [pack_cons]
    have := pack_even n (l.drop (runLen c 254 l)) (by simp at h ⊢; omega)
    simp at this ⊢; omega
theorem unpackGo_pack : ∀ (n : Nat) (l acc : List UInt8) (most : Int), l.length ≤ n → (acc.length : Int) + l.length ≤ most → unpackGo (pack l) acc most = (acc ++ l, 0)
  | _, [], acc, most, _, _ => by simp [pack_nil, unpackGo]
  | 0, c :: l, _, _, h, _ => by simp at h
  | n + 1, c :: l, acc, most, h, hm => by
    have hr := runLen_le c 254 l
    have ht := runLen_take c 254 l
    rw [pack_cons]
    generalize runLen c 254 l = m at *
    have h1 : (UInt8.ofNat (m + 1)).toNat = m + 1 := by simp [UInt8.toNat_ofNat']; omega
    unfold unpackGo
    rw [h1, if_neg (by omega), if_neg (by simp at hm; omega), unpackGo_pack n _ _ most (by simp at h ⊢; omega) (by simp at hm ⊢; omega)]
    rw [List.append_assoc]
    congr 2
    rw [List.replicate_succ, List.cons_append, ← ht]
theorem unpack_pack (l : List UInt8) : unpack (pack l) l.length = (l, 0) := by
  unfold unpack
  rw [if_neg (by have := pack_even _ l (Nat.le_refl _); omega), unpackGo_pack _ l [] _ (Nat.le_refl _) (by simp)]
  simp
theorem unpackGo_less : ∀ (n : Nat) (l acc : List UInt8) (most : Int), l.length ≤ n → (acc.length : Int) ≤ most → most < (acc.length : Int) + l.length → unpackGo (pack l) acc most = ([], 2)
  | _, [], acc, most, _, h1, h2 => by simp at h2; omega
  | 0, c :: l, _, _, h, _, _ => by simp at h
  | n + 1, c :: l, acc, most, h, ha, hm => by
    have hr := runLen_le c 254 l
    rw [pack_cons]
    generalize runLen c 254 l = m at *
    have h1 : (UInt8.ofNat (m + 1)).toNat = m + 1 := by simp [UInt8.toNat_ofNat']; omega
    unfold unpackGo
    rw [h1, if_neg (by omega)]
    by_cases hc : (acc.length : Int) + ((m + 1 : Nat) : Int) > most
    · rw [if_pos hc]
    · rw [if_neg hc, unpackGo_less n _ _ most (by simp at h ⊢; omega) (by simp; omega) (by simp at hm ⊢; omega)]
theorem unpack_less (l : List UInt8) (h : l ≠ []) : unpack (pack l) ((l.length : Int) - 1) = ([], 2) := by
  unfold unpack
  have hl : 0 < l.length := List.length_pos_iff.2 h
  rw [if_neg (by have := pack_even _ l (Nat.le_refl _); omega), unpackGo_less _ l [] _ (Nat.le_refl _) (by simp; omega) (by simp; omega)]
end Fb

/- Plain laws of packing: what the program and the reference both come to. No conditions. -/
namespace Fb
def runLen (c : UInt8) : Nat → List UInt8 → Nat
  | 0, _ => 0
  | _ + 1, [] => 0
  | k + 1, d :: l => if d = c then runLen c k l + 1 else 0
theorem runLen_le (c : UInt8) : ∀ (k : Nat) (l : List UInt8), runLen c k l ≤ k ∧ runLen c k l ≤ l.length
  | 0, l => by simp [runLen]
  | k + 1, [] => by simp [runLen]
  | k + 1, d :: l => by
    have := runLen_le c k l
    unfold runLen
    split <;> simp <;> omega
/-- m equal bytes, then an end: the limit, another byte, or none. -/
theorem runLen_eq (c : UInt8) : ∀ (m k : Nat) (l : List UInt8), m ≤ k → m ≤ l.length → (∀ j (h : j < l.length), j < m → l[j] = c) → (m = k ∨ m = l.length ∨ ∃ h : m < l.length, l[m] ≠ c) → runLen c k l = m
  | 0, 0, l, _, _, _, _ => by simp [runLen]
  | 0, k + 1, [], _, _, _, _ => by simp [runLen]
  | 0, k + 1, d :: l, _, _, _, h => by
    rcases h with h | h | ⟨_, h⟩
    · omega
    · simp at h
    · simp at h; simp [runLen, h]
  | m + 1, 0, l, h, _, _, _ => by omega
  | m + 1, k + 1, [], _, h, _, _ => by simp at h
  | m + 1, k + 1, d :: l, h1, h2, h3, h4 => by
    have hd : d = c := h3 0 (by simp) (by omega)
    unfold runLen
    rw [if_pos hd, runLen_eq c m k l (by omega) (by simpa using h2) (fun j hj hm => by have := h3 (j + 1) (by simpa using hj) (by omega); simpa using this)]
    rcases h4 with h | h | ⟨hh, h⟩
    · left; omega
    · right; left; simpa using h
    · right; right; exact ⟨by simpa using hh, by simpa using h⟩
def packF : Nat → List UInt8 → List UInt8
  | 0, _ => []
  | _ + 1, [] => []
  | f + 1, c :: l => UInt8.ofNat (runLen c 254 l + 1) :: c :: packF f (l.drop (runLen c 254 l))
def pack (l : List UInt8) : List UInt8 := packF l.length l
theorem packF_fuel : ∀ (f g : Nat) (l : List UInt8), l.length ≤ f → l.length ≤ g → packF f l = packF g l
  | 0, 0, _, _, _ => rfl
  | 0, g + 1, [], _, _ => rfl
  | 0, g + 1, c :: l, h, _ => by simp at h
  | f + 1, 0, [], _, _ => rfl
  | f + 1, 0, c :: l, _, h => by simp at h
  | f + 1, g + 1, [], _, _ => rfl
  | f + 1, g + 1, c :: l, h, h' => by
    simp only [packF]
    rw [packF_fuel f g (l.drop (runLen c 254 l)) (by simp at h ⊢; omega) (by simp at h' ⊢; omega)]
theorem pack_nil : pack [] = [] := rfl
theorem pack_cons (c : UInt8) (l : List UInt8) : pack (c :: l) = UInt8.ofNat (runLen c 254 l + 1) :: c :: pack (l.drop (runLen c 254 l)) := by
  unfold pack
  simp only [List.length_cons, packF]
  rw [packF_fuel _ (l.drop (runLen c 254 l)).length _ (by simp) (Nat.le_refl _)]
/-- n bytes c, then an end. -/
theorem pack_run (l : List UInt8) (k n : Nat) (hn : 1 ≤ n) (hk : k + n ≤ l.length) (h255 : n ≤ 255) (hs : ∀ j (h : j < n), l[k + j] = l[k]) (he : n = 255 ∨ k + n = l.length ∨ ∃ h : k + n < l.length, l[k + n] ≠ l[k]) :
    pack (l.drop k) = UInt8.ofNat n :: l[k] :: pack (l.drop (k + n)) := by
  rw [List.drop_eq_getElem_cons (by omega), pack_cons]
  have hr : runLen l[k] 254 (l.drop (k + 1)) = n - 1 := by
    refine runLen_eq _ _ _ _ (by omega) (by simp; omega) (fun j hj hm => ?_) ?_
    · rw [List.getElem_drop]
      have := hs (j + 1) (by omega)
      rw [← this]; congr 1; omega
    · rcases he with h | h | ⟨hh, h⟩
      · left; omega
      · right; left; simp; omega
      · right; right
        refine ⟨by simp; omega, ?_⟩
        rw [List.getElem_drop]
        intro e; apply h; rw [← e]; congr 1; omega
  rw [hr]
  simp only [List.drop_drop]
  congr 1
  · congr 1; omega
  · congr 2; congr 1; omega
theorem pack_len : ∀ (n : Nat) (l : List UInt8), l.length ≤ n → (pack l).length ≤ 2 * l.length
  | 0, [], _ => by simp [pack_nil]
  | 0, c :: l, h => by simp at h
  | n + 1, [], _ => by simp [pack_nil]
  | n + 1, c :: l, h => by
    rw [pack_cons]
    have := pack_len n (l.drop (runLen c 254 l)) (by simp at h ⊢; omega)
    simp at this ⊢; omega

def unpackGo : List UInt8 → List UInt8 → Int → List UInt8 × Nat
  | [], acc, _ => (acc, 0)
  | [_], _, _ => ([], 4)
  | n :: c :: l, acc, most => if n.toNat = 0 then ([], 4) else if (acc.length : Int) + n.toNat > most then ([], 2) else unpackGo l (acc ++ List.replicate n.toNat c) most
def unpack (l : List UInt8) (most : Int) : List UInt8 × Nat := if l.length % 2 = 1 then ([], 4) else unpackGo l [] most
theorem unpackGo_step (l : List UInt8) (k : Nat) (acc : List UInt8) (most : Int) (h : k + 1 < l.length) :
    unpackGo (l.drop k) acc most = if l[k].toNat = 0 then ([], 4) else if (acc.length : Int) + l[k].toNat > most then ([], 2) else unpackGo (l.drop (k + 2)) (acc ++ List.replicate l[k].toNat l[k + 1]) most := by
  rw [List.drop_eq_getElem_cons (by omega), List.drop_eq_getElem_cons (by omega)]
  rfl
end Fb
namespace Fb
/-- the bytes k .. k + m - 1 are the same -/
def SameRun (L : List UInt8) (k m : Nat) : Prop := ∀ j, j < m → L[k + j]? = L[k]?
theorem SameRun.one (L : List UInt8) (k : Nat) : SameRun L k 1 := fun j h => by
  have e : j = 0 := by omega
  subst e
  rfl
theorem SameRun.succ {L : List UInt8} {k m : Nat} (h : SameRun L k m) (e : L[k + m]? = L[k]?) : SameRun L k (m + 1) := fun j hj => by
  by_cases hm : j = m
  · subst hm; exact e
  · exact h j (by omega)
/-- so much is done: B is told, the rest is from k on -/
def PackInv (L B : List UInt8) (k : Nat) : Prop := B ++ pack (L.drop k) = pack L
theorem PackInv.start (L : List UInt8) : PackInv L [] 0 := by simp [PackInv]
theorem PackInv.done {L B : List UInt8} {k : Nat} (h : PackInv L B k) (hk : L.length ≤ k) : B = pack L := by
  unfold PackInv at h
  rw [List.drop_of_length_le hk, pack_nil, List.append_nil] at h
  exact h
theorem PackInv.step {L B : List UInt8} {k m : Nat} (h : PackInv L B k) (h1 : 1 ≤ m) (hk : k + m ≤ L.length) (h255 : m ≤ 255) (hs : SameRun L k m) (he : m = 255 ∨ k + m = L.length ∨ (k + m < L.length ∧ L[k + m]? ≠ L[k]?)) :
    PackInv L (B ++ [UInt8.ofNat m, L[k]'(by omega)]) (k + m) := by
  unfold PackInv at h ⊢
  have hs' : ∀ j (h : j < m), L[k + j]'(by omega) = L[k]'(by omega) := fun j hj => by
    have := hs j hj
    rw [List.getElem?_eq_getElem (by omega), List.getElem?_eq_getElem (by omega)] at this
    simpa using this
  rw [← h, pack_run L k m h1 hk h255 hs' ?_]
  · simp
  · rcases he with h | h | ⟨h, hne⟩
    · exact .inl h
    · exact .inr (.inl h)
    · refine .inr (.inr ⟨h, fun e => hne ?_⟩)
      rw [List.getElem?_eq_getElem h, List.getElem?_eq_getElem (by omega), e]
end Fb
namespace Fb
theorem SameRun.last {L : List UInt8} {j n : Nat} (h : SameRun L j (n + 1)) : L[j + n]? = L[j]? := h n (by omega)
/-- the reference's flush: the byte that is told stands last -/
theorem PackInv.flush {L B : List UInt8} {j n : Nat} (h : PackInv L B j) (hk : j + n < L.length) (h255 : n + 1 ≤ 255) (hs : SameRun L j (n + 1)) (he : j + n + 1 = L.length ∨ (j + n + 1 < L.length ∧ L[j + n + 1]? ≠ L[j + n]?) ∨ n + 1 = 255) :
    PackInv L (B ++ [UInt8.ofNat (n + 1), L[j + n]]) (j + n + 1) := by
  have hl := hs.last
  have h2 := h.step (m := n + 1) (by omega) (by omega) h255 hs (by
    rcases he with h | ⟨h, hne⟩ | h
    · right; left; omega
    · right; right; exact ⟨by omega, by rw [← hl]; exact hne⟩
    · left; exact h)
  have e : L[j + n] = L[j]'(by omega) := by
    rw [List.getElem?_eq_getElem hk, List.getElem?_eq_getElem (by omega)] at hl
    simpa using hl
  rw [e]
  exact h2
theorem SameRun.more {L : List UInt8} {j n : Nat} (h : SameRun L j (n + 1)) (e : L[j + n + 1]? = L[j + n]?) : SameRun L j (n + 2) := by
  have := h.succ (by rw [← h.last, ← e]; rfl)
  exact this
end Fb

namespace Fb
/-- so much is unpacked: B; the rest is from k on -/
def UnpInv (L B : List UInt8) (k : Nat) (most : Int) : Prop := unpackGo (L.drop k) B most = unpack L most
theorem UnpInv.start (L : List UInt8) (most : Int) (h : L.length % 2 = 0) : UnpInv L [] 0 most := by
  unfold UnpInv unpack
  rw [if_neg (by omega)]; rfl
theorem unpack_odd {L : List UInt8} {most : Int} (h : L.length % 2 = 1) : unpack L most = ([], 4) := by unfold unpack; rw [if_pos h]
theorem UnpInv.done {L B : List UInt8} {k : Nat} {most : Int} (h : UnpInv L B k most) (hk : L.length ≤ k) : unpack L most = (B, 0) := by
  unfold UnpInv at h
  rw [← h, List.drop_of_length_le hk]; rfl
theorem UnpInv.zero {L B : List UInt8} {k : Nat} {most : Int} (h : UnpInv L B k most) (hk : k + 1 < L.length) (h0 : L[k].toNat = 0) : unpack L most = ([], 4) := by
  unfold UnpInv at h
  rw [← h, unpackGo_step L k B most hk, if_pos h0]
theorem UnpInv.much {L B : List UInt8} {k : Nat} {most : Int} (h : UnpInv L B k most) (hk : k + 1 < L.length) (h0 : L[k].toNat ≠ 0) (h1 : most < (B.length : Int) + L[k].toNat) : unpack L most = ([], 2) := by
  unfold UnpInv at h
  rw [← h, unpackGo_step L k B most hk, if_neg h0, if_pos (by omega)]
theorem UnpInv.step {L B : List UInt8} {k : Nat} {most : Int} (h : UnpInv L B k most) (hk : k + 1 < L.length) (h0 : L[k].toNat ≠ 0) (h1 : (B.length : Int) + L[k].toNat ≤ most) : UnpInv L (B ++ List.replicate L[k].toNat L[k + 1]) (k + 2) most := by
  unfold UnpInv at h ⊢
  rw [← h, unpackGo_step L k B most hk, if_neg h0, if_neg (by omega)]
theorem unpackGo_len : ∀ (n : Nat) (L B : List UInt8) (most : Int), L.length ≤ n → (B.length : Int) ≤ max 0 most → ((unpackGo L B most).1.length : Int) ≤ max 0 most
  | _, [], B, most, _, h => by simpa [unpackGo] using h
  | _, [_], B, most, _, h => by simp [unpackGo]; omega
  | 0, a :: b :: l, B, most, hn, h => by simp at hn
  | n + 1, a :: b :: l, B, most, hn, h => by
    unfold unpackGo
    split
    · simp; omega
    · split
      · simp; omega
      · exact unpackGo_len n l _ most (by simp at hn; omega) (by simp; omega)
theorem unpack_len (L : List UInt8) (most : Int) : ((unpack L most).1.length : Int) ≤ max 0 most := by
  unfold unpack
  split
  · simp; omega
  · exact unpackGo_len _ L [] most (Nat.le_refl _) (by simp; omega)
theorem rep_succ (B : List UInt8) (m : Nat) (c : UInt8) : B ++ List.replicate (m + 1) c = B ++ List.replicate m c ++ [c] := by
  rw [List.replicate_succ']; simp
end Fb

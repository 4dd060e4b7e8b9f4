/- picture.Parse returns what the plain law of pictures' bytes says. Condition: at most a thousand bytes. -/
import Derived.Test.YtcmbbicemddggaaDoorPicRows
import Derived.Test.YtcmbbicemddggaaDoorPicRow
import Derived.Test.YtcmbbicemddggaaDoorPackWalk2
import Derived.Test.YtcmbbicemddggaaDoorChecks
import Derived.Test.YtcmbbicemddggaaDoorWalksA
import Derived.Test.YtcmbbicemddggaaDoorChunkBytes
import Derived.Deep.RegionLaw
set_option linter.unusedSimpArgs false
set_option linter.unusedVariables false
namespace Fb
open Go Go.Proofs Go.RowKit Go.Sort
attribute [local go_sem ↓] Go.wp_at_zero Go.wp_at_succ
/-- the call returns a picture in new memory, and what is wrong -/
def RetPicE (x : FPic × Nat) (w : World) (e : Ending) (w' : World) : Prop := ∃ (A : Option Addr) (c : Nat), e = .returned (.tuple #[.agg #[.int .i64 x.1.w, .int .i64 x.1.h, .slice A x.1.p.length c], errV x.2]) ∧ Pixs w' A x.1.p.length x.1.p ∧ (∀ a, A = some a → w.heap.size ≤ a.block) ∧ Below w.heap.size w w'
theorem retPicE_bad {x : FPic × Nat} {f : Nat} {w w' : World} (h : x = (noPic, f)) (hf : f ≠ 0) (hb : Below w.heap.size w w') : RetPicE x w (.returned (.tuple #[.agg #[.int .i64 0, .int .i64 0, .slice none 0 0], .iface 63 (.int .i64 f)])) w' := by
  subst h
  exact ⟨none, 0, by rw [← errV_pos hf]; rfl, pixs_none _ _, (fun a ha => by simp at ha), hb⟩
/-- the block of a variable lies apart from a row of another type that the call owns -/
theorem own_apart {w : World} {base e size n : Nat} {v : Value} {xs : List Value} {g : Nat} {cur : Array Value} {T : TypeId} {fz : Nat × Nat} (h : w.ownsRow base e size v n xs) (hg : w.heap[g]? = some (.cells cur T fz)) (hT : T ≠ e) : v.ownBlock ≠ some g := by
  rcases h.2 with ⟨hv, h0⟩ | ⟨g', cap, cur', hv, hg', hh, r⟩
  · subst hv; simp [Value.ownBlock]
  · subst hv
    intro e2
    simp only [Value.ownBlock, Option.some.injEq] at e2
    subst e2
    rw [hh] at hg
    injection hg with hg
    injection hg with _ h3 _
    exact hT h3.symm
theorem blk_grown {w w' : World} {own : Option Nat} {g : Nat} {o : Go.Obj} (h : w.heap[g]? = some o) (hg : w.grownBy w' own) (hne : own ≠ some g) : w'.heap[g]? = some o := by
  rw [hg.block g (Array.getElem?_eq_some_iff.1 h).1 (fun e => hne e.symm)]; exact h
theorem blk_below {w w' : World} {g : Nat} {o : Go.Obj} (h : w.heap[g]? = some o) (hb : Below w.heap.size w w') : w'.heap[g]? = some o := by
  rw [hb.block g (Array.getElem?_eq_some_iff.1 h).1]; exact h
theorem blk_set {w : World} {g k o : Nat} {x : Go.Obj} {v : Value} (h : w.heap[k]? = some x) (hne : g ≠ k) : (w.setCell ⟨g, o, none⟩ v).heap[k]? = some x := by
  rw [Below.heap_setCell w ⟨g, o, none⟩ v k (fun e => hne e.symm)]; exact h
/-- a slice of ints whose block is a row of ints -/
def IntsT (w : World) (A : Option Addr) (n : Nat) (x : List Int) : Prop := Ints w A n x ∧ Typed w A n 3
theorem IntsT.below {w w' : World} {A : Option Addr} {n : Nat} {x : List Int} (h : IntsT w A n x) (hb : Below w.heap.size w w') : IntsT w' A n x := ⟨h.1.below hb, h.2.below hb⟩
theorem IntsT.grown {w w' : World} {A : Option Addr} {n : Nat} {x : List Int} {base e size k : Nat} {v : Value} {xs : List Value} (h : IntsT w A n x) (ho : w.ownsRow base e size v k xs) (hT : 3 ≠ e) (hg : w.grownBy w' v.ownBlock) : IntsT w' A n x := by
  have hne : 0 < n → ∀ a, A = some a → v.ownBlock ≠ some a.block := fun hn a ha => by
    obtain ⟨cur, fz, e⟩ := h.2 hn a ha
    exact own_apart ho e hT
  exact ⟨⟨h.1.1, h.1.2.grown hg hne⟩, h.2.grown hg hne⟩
theorem IntsT.set {w : World} {A : Option Addr} {n g o : Nat} {x : List Int} {v : Value} {cur : Array Value} {T : TypeId} {fz : Nat × Nat} (h : IntsT w A n x) (hg : w.heap[g]? = some (.cells cur T fz)) (hT : 3 ≠ T) : IntsT (w.setCell ⟨g, o, none⟩ v) A n x := by
  refine ⟨⟨h.1.1, h.1.2.1, fun hn => ?_⟩, fun hn a ha => ?_⟩
  · obtain ⟨b, off, rfl, hb, hc⟩ := h.1.2.2 hn
    obtain ⟨c2, f2, e⟩ := h.2 hn _ rfl
    have hne : g ≠ b := by
      intro e2; subst e2
      rw [hg] at e
      injection e with e; injection e with _ e3 _
      exact hT e3.symm
    refine ⟨b, off, rfl, by simpa using hb, fun j u hu => ?_⟩
    rw [World.cell?_of_block (w := w) (w' := w.setCell ⟨g, o, none⟩ v) (Below.heap_setCell w ⟨g, o, none⟩ v b (fun e => hne e.symm))]
    exact hc j u hu
  · obtain ⟨c2, f2, e⟩ := h.2 hn a ha
    have hne : g ≠ a.block := by
      intro e2; subst e2
      rw [hg] at e
      injection e with e; injection e with _ e3 _
      exact hT e3.symm
    exact ⟨c2, f2, blk_set e hne⟩
theorem own_setT {w : World} {base e size n g o : Nat} {v u : Value} {xs : List Value} {cur : Array Value} {T : TypeId} {fz : Nat × Nat} (h : w.ownsRow base e size v n xs) (hg : w.heap[g]? = some (.cells cur T fz)) (hT : T ≠ e) : (w.setCell ⟨g, o, none⟩ u).ownsRow base e size v n xs := by
  have hne := own_apart h hg hT
  obtain ⟨h1, h2⟩ := h
  refine ⟨h1, ?_⟩
  rcases h2 with h2 | ⟨k, cap, cur2, hv, hk, hh, r⟩
  · exact Or.inl h2
  · subst hv
    exact Or.inr ⟨k, cap, cur2, rfl, hk, blk_set hh (by intro e2; subst e2; exact hne rfl), r⟩
/-- the picture that is being read, in its block -/
def PBox (w : World) (base g : Nat) (P H : Nat) (v : Value) (acc : List Px) : Prop := base ≤ g ∧ w.heap[g]? = some (.cells #[.int .i64 (P : Int), .int .i64 (H : Int), v] 46 (0, 0)) ∧ w.ownsRow base 52 2 v acc.length (pxCells acc)
theorem PBox.below {w w' : World} {base g P H : Nat} {v : Value} {acc : List Px} (h : PBox w base g P H v acc) (hb : Below w.heap.size w w') : PBox w' base g P H v acc := ⟨h.1, blk_below h.2.1 hb, own_keep h.2.2 hb⟩
theorem ppblk_cell {w : World} {g : Nat} {cur : Array Value} {T : TypeId} (h : w.heap[g]? = some (.cells cur T (0, 0))) (j : Nat) (u : Value) (hu : cur[j]? = some u) : w.cell? ⟨g, j, none⟩ = some u := by
  rw [Lib.cell_of_heap h]; exact hu
theorem ppblk_free {w : World} {g : Nat} {cur : Array Value} {T : TypeId} (h : w.heap[g]? = some (.cells cur T (0, 0))) (j : Nat) : w.frozen? ⟨g, j, none⟩ = false := Lib.frozen_of_heap h j
theorem pairs_at : ∀ (l : List Int) (k x : Nat), l.length = 2 * k → x < k → (pairsI l)[x]? = some (l.getD (2 * x) 0, l.getD (2 * x + 1) 0)
  | [], k, x, h, hx => by simp at h; omega
  | [a], k, x, h, hx => by simp at h; omega
  | a :: b :: r, k, 0, h, hx => rfl
  | a :: b :: r, k, x + 1, h, hx => by
    obtain ⟨m, rfl⟩ : ∃ m, k = m + 1 := ⟨k - 1, by omega⟩
    have ih := pairs_at r m x (by simp at h; omega) (by omega)
    show (pairsI r)[x]? = _
    rw [ih]
    rw [show 2 * (x + 1) = 2 * x + 1 + 1 by omega]
    simp
theorem pairs_take {l : List Int} {k x : Nat} (h : l.length = 2 * k) (hx : x < k) : (pairsI l).take (x + 1) = (pairsI l).take x ++ [(l.getD (2 * x) 0, l.getD (2 * x + 1) 0)] := by
  have h1 := (pairs_len l k h).1
  have h2 := pairs_at l k x h hx
  rw [List.getElem?_eq_getElem (by omega)] at h2
  injection h2 with h2
  rw [List.take_succ_eq_append_getElem (by omega), h2]
theorem Ints.two {w : World} {A : Option Addr} {n k : Nat} {r : List Int} (h : Ints w A n r) (hk : k + 1 < r.length) : ∃ b off, A = some ⟨b, off, none⟩ ∧ w.cell? ⟨b, off + k, none⟩ = some (.int .i64 (r.getD k 0)) ∧ w.cell? ⟨b, off + (k + 1), none⟩ = some (.int .i64 (r.getD (k + 1) 0)) := by
  obtain ⟨b, off, e, hb, hc⟩ := h.2.2 (by have := h.1; omega)
  have f : ∀ j, j < r.length → (r.map (Value.int .i64))[j]? = some (.int .i64 (r.getD j 0)) := fun j hj => by
    rw [List.getElem?_map, List.getD_eq_getElem?_getD, List.getElem?_eq_getElem hj]; rfl
  exact ⟨b, off, e, hc k _ (f k (by omega)), hc (k + 1) _ (f (k + 1) hk)⟩
theorem row_set {w : World} {A : Option Addr} {n size g o : Nat} {cs : List Value} {v : Value} (h : Row w A n size cs) (hne : 0 < n → ∀ a, A = some a → a.block ≠ g) : Row (w.setCell ⟨g, o, none⟩ v) A n size cs := by
  refine ⟨h.1, fun hn => ?_⟩
  obtain ⟨b, off, rfl, hb, hc⟩ := h.2 hn
  refine ⟨b, off, rfl, by simpa using hb, fun j u hu => ?_⟩
  rw [World.cell?_of_block (w := w) (w' := w.setCell ⟨g, o, none⟩ v) (Below.heap_setCell w ⟨g, o, none⟩ v b (hne hn _ rfl))]
  exact hc j u hu
theorem own_ne {w : World} {base e size n c : Nat} {A : Option Addr} {xs : List Value} {g : Nat} (h : (Value.slice A n c).ownBlock ≠ some g) (_ho : w.ownsRow base e size (.slice A n c) n xs) : 0 < n → ∀ a, A = some a → a.block ≠ g := by
  intro _ a ha e
  subst ha
  apply h
  rw [← e]; rfl
/-- what the round of a row leaves -/
structure PRd (w wr : World) (g P H y : Nat) (T : List UInt8) (acc : List Px) (UA : Option Addr) (Un : Nat) (v : Value) : Prop where
  ints : IntsT wr UA Un (upI P acc y)
  bytes : ∀ x ∈ upI P acc y, 0 ≤ x ∧ x ≤ 255
  few : Un ≤ 100
  inv : PInv P H T y acc
  box : PBox wr w.heap.size g P H v acc
  res : wr.heap[w.heap.size]? = some (.cells #[.int .i64 0, .int .i64 0, .slice none 0 0] 46 (0, 0))
  bel : Below w.heap.size w wr
theorem PRd.below {w wr w' : World} {g P H y : Nat} {T : List UInt8} {acc : List Px} {UA : Option Addr} {Un : Nat} {v : Value} (h : PRd w wr g P H y T acc UA Un v) (hb : Below wr.heap.size wr w') : PRd w w' g P H y T acc UA Un v :=
  ⟨h.ints.below hb, h.bytes, h.few, h.inv, h.box.below hb, blk_below h.res hb, bnext h.bel hb⟩
/-- what the round of a pixel leaves -/
structure PPx (w wr : World) (g P H : Nat) (R : List Int) (RA : Option Addr) (v : Value) (acc : List Px) : Prop where
  ints : IntsT wr RA (2 * P) R
  box : PBox wr w.heap.size g P H v acc
  res : wr.heap[w.heap.size]? = some (.cells #[.int .i64 0, .int .i64 0, .slice none 0 0] 46 (0, 0))
  bel : Below w.heap.size w wr
/-- a pixel that is appended, and stored back -/
theorem PPx.push {w wr w2 : World} {g P H ga ca : Nat} {R : List Int} {RA : Option Addr} {v : Value} {acc : List Px} {q : Px} (h : PPx w wr g P H R RA v acc) (hgw : w.heap.size < g) {o : Go.Obj}
    (ho : w2.ownsRow w.heap.size 52 2 (.slice (some ⟨ga, 0, none⟩) (acc.length + 1) ca) (acc.length + 1) (pxCells acc ++ [.int .i64 q.1, .int .i64 q.2])) (hg : ((wr.drew).alloc o).grownBy w2 v.ownBlock) :
    PPx w (w2.setCell ⟨g, 2, none⟩ (.slice (some ⟨ga, 0, none⟩) (acc.length + 1) ca)) g P H R RA (.slice (some ⟨ga, 0, none⟩) (acc.length + 1) ca) (acc ++ [q]) ∧ w2.heap[g]? = some (.cells #[.int .i64 (P : Int), .int .i64 (H : Int), v] 46 (0, 0)) := by
  have hb : Below wr.heap.size wr ((wr.drew).alloc o) := ((Below.refl wr.heap.size wr).drew).alloc (Nat.le_refl _) o
  have hbox := h.box.below hb
  have hg2 := blk_grown hbox.2.1 hg (own_apart hbox.2.2 hbox.2.1 (by decide))
  have hr2 := blk_grown (blk_below h.res hb) hg (own_apart hbox.2.2 (blk_below h.res hb) (by decide))
  have hi2 := (h.ints.below hb).grown hbox.2.2 (by decide) hg
  refine ⟨⟨hi2.set hg2 (by decide), ⟨h.box.1, ?_, ?_⟩, blk_set hr2 (by omega), ?_⟩, hg2⟩
  · simp [World.setCell, Array.getElem?_modify, hg2]
  · have h1 := own_setT (o := 2) (u := .slice (some ⟨ga, 0, none⟩) (acc.length + 1) ca) ho hg2 (by decide)
    rw [pxCells_append, List.length_append]
    exact h1
  · exact ((h.bel.trans (hb.mono h.bel.size)).grown hg (by have := h.bel.size; simp; omega) (fun k hk => (hbox.2.2.lt k hk).1)).setCell (by show w.heap.size ≤ g; omega) _
set_option maxRecDepth 100000 in
set_option maxHeartbeats 4000000 in
theorem parse_any (s : ByteArray) (w : World) (hs : s.size ≤ 10000) :
    Calls Tryd.prog 40 #[.string s] w (RetPicE (picOf s.data.toList) w) := by
  have hsz : s.data.toList.length = s.size := by simp
  have Hsz := hid hsz
  clear hsz
  by_cases h2 : s.size < 2
  · have hV := hid (picOf_short (s := s.data.toList) (by rw [Hsz.out]; exact h2))
    go_enter Tryd.func40, Tryd.ntmps40
    go_wp2_with fail
    refine bodyPost_ret (v := .tuple #[.agg #[.int .i64 0, .int .i64 0, .slice none 0 0], .iface 63 (.int .i64 4)]) (by simp [results, Tryd.results40, go_sem]) rfl ?_
    exact retPicE_bad hV.out (by decide) ((Below.refl _ _).alloc (Nat.le_refl _) _)
  have i0 : (0 : Int) ≤ 0 := by omega
  have i1 : (0 : Int) < (s.size : Int) := by omega
  have i2 : (1 : Int) < (s.size : Int) := by omega
  have h2' : ¬ (s.size : Int) < 2 := by omega
  have hp0 := getD_str s 0 (by omega)
  have hp1 := getD_str s 1 (by omega)
  obtain ⟨P, hP⟩ : ∃ P, (s[0]).toNat = P := ⟨_, rfl⟩
  obtain ⟨H, hH⟩ : ∃ H, (s[1]).toNat = H := ⟨_, rfl⟩
  have b0 := UInt8.toNat_lt s[0]
  have b1 := UInt8.toNat_lt s[1]
  rw [hP] at hp0 b0
  rw [hH] at hp1 b1
  have Hp0 := hid hp0
  have Hp1 := hid hp1
  have HP := hid hP
  have HH := hid hH
  clear hp0 hp1 hP hH
  go_enter Tryd.func40, Tryd.ntmps40
  have j1 : 0 < s.size := by omega
  have j2 : 1 < s.size := by omega
  go_upto_region 3 with fail
  have hP := HP.out
  have hH := HH.out
  have e1 : IntKind.i64.wrap (P : Int) = (P : Int) := IntWalk.i64_in _ (by omega)
  have e2 : IntKind.i64.wrap (H : Int) = (H : Int) := IntWalk.i64_in _ (by omega)
  go_region
  clear hP hH e1 e2 i0 i1 i2 j1 j2
  obtain ⟨W0, hW0⟩ : ∃ W0, W0 = ((w.alloc (.cells #[.int .i64 0, .int .i64 0, .slice none 0 0] 46)).alloc (.cells #[.int .i64 (P : Int), .int .i64 (H : Int), .slice none 0 0] 46)).drew := ⟨_, rfl⟩
  rw [← hW0]
  have hB0 : Below w.heap.size w W0 := by rw [hW0]; exact (((Below.refl w.heap.size w).alloc (Nat.le_refl _) _).alloc (by simp) _).drew
  have hR : W0.heap[w.heap.size]? = some (.cells #[.int .i64 0, .int .i64 0, .slice none 0 0] 46 (0, 0)) := by
    rw [hW0]; show ((w.alloc _).alloc _).heap[_]? = _
    rw [Lib.alloc_old _ _ _ (by simp)]; exact heap_alloc_new w _
  obtain ⟨g, hg⟩ : ∃ g, g = w.heap.size + 1 := ⟨_, rfl⟩
  have hG : W0.heap[g]? = some (.cells #[.int .i64 (P : Int), .int .i64 (H : Int), .slice none 0 0] 46 (0, 0)) := by
    rw [hW0, hg]
    have h := heap_alloc_new (w.alloc (.cells #[.int .i64 0, .int .i64 0, .slice none 0 0] 46)) (.cells #[.int .i64 (P : Int), .int .i64 (H : Int), .slice none 0 0] 46)
    rw [show (w.alloc (.cells #[.int .i64 0, .int .i64 0, .slice none 0 0] 46)).heap.size = w.heap.size + 1 by simp] at h
    exact h
  have hgw : w.heap.size < g := by omega
  have hz0 : g < W0.heap.size := (Array.getElem?_eq_some_iff.1 hG).1
  rw [← hg]
  clear hW0 hg
  have p0 := ppblk_cell hG 0 (.int .i64 (P : Int)) rfl
  have p1 := ppblk_cell hG 1 (.int .i64 (H : Int)) rfl
  have r0 := ppblk_cell hR 0 (.int .i64 0) rfl
  have r1 := ppblk_cell hR 1 (.int .i64 0) rfl
  have r2 := ppblk_cell hR 2 (.slice none 0 0) rfl
  have f0 := ppblk_free hR 0
  have f1 := ppblk_free hR 1
  have f2 := ppblk_free hR 2
  have HR := hid hR
  have HG := hid hG
  clear hR hG
  have ways : P < 1 ∨ (1 ≤ P ∧ 8 < P) ∨ (1 ≤ P ∧ P ≤ 8 ∧ H < 1) ∨ (1 ≤ P ∧ P ≤ 8 ∧ 1 ≤ H ∧ 8 < H) ∨ (1 ≤ P ∧ P ≤ 8 ∧ 1 ≤ H ∧ H ≤ 8) := by omega
  rcases ways with hw | hw | hw | hw | hw
  iterate 4
    · have hV := hid (picOf_bound (s := s.data.toList) (by rw [Hsz.out]; exact h2) (by rw [Hp0.out, Hp1.out]; omega))
      have hwi : (P : Int) < 1 ∨ (1 ≤ (P : Int) ∧ 8 < (P : Int)) ∨ (1 ≤ (P : Int) ∧ (P : Int) ≤ 8 ∧ (H : Int) < 1) ∨ (1 ≤ (P : Int) ∧ (P : Int) ≤ 8 ∧ 1 ≤ (H : Int) ∧ 8 < (H : Int)) := by omega
      clear hwi
      go_wp2_with fail
      refine bodyPost_ret (v := .tuple #[.agg #[.int .i64 0, .int .i64 0, .slice none 0 0], .iface 63 (.int .i64 1)]) (by simp [results, Tryd.results40, go_sem, r0, r1, r2]) rfl ?_
      exact retPicE_bad hV.out (by decide) (((hB0.setCell (Nat.le_refl _) _).setCell (Nat.le_refl _) _).setCell (Nat.le_refl _) _)
  obtain ⟨w1, w2, w3, w4⟩ := hw
  go_upto_region 6 with fail
  have hgz : w.heap.size < W0.heap.size := by omega
  have F0 := cell_all2 hz0 p0
  have F1 := cell_all2 hz0 p1
  obtain ⟨M, hM⟩ : ∃ M, H * (1 + 2 * P) = M := ⟨_, rfl⟩
  have hMi : (H : Int) * (1 + 2 * (P : Int)) = (M : Int) := by rw [← hM]; simp
  have hMb : M ≤ 8 * 17 := by rw [← hM]; exact Nat.mul_le_mul w4 (by omega)
  have hM1 : 1 ≤ M := by rw [← hM]; exact Nat.le_trans w3 (Nat.le_mul_of_pos_right _ (by omega))
  have e3 : IntKind.i64.wrap (2 * (P : Int)) = 2 * (P : Int) := IntWalk.i64_in _ (by omega)
  have e4 : IntKind.i64.wrap (1 + 2 * (P : Int)) = 1 + 2 * (P : Int) := IntWalk.i64_in _ (by omega)
  have e5 : IntKind.i64.wrap ((H : Int) * (1 + 2 * (P : Int))) = (M : Int) := by rw [hMi]; exact IntWalk.i64_in _ (by omega)
  have i1 : (2 : Int) ≤ (s.size : Int) := by omega
  have i2 : (0 : Int) ≤ 2 := by omega
  have hex : (s.extract 2 s.size).data.toList = s.data.toList.drop 2 := by
    rw [extract_list, List.take_of_length_le (by rw [Hsz.out]; exact Nat.le_refl _)]
  have hexs : (s.extract 2 s.size).size ≤ 1000000 := by simp; omega
  obtain ⟨⟨T, f⟩, hu⟩ : ∃ u, unpack (s.data.toList.drop 2) (M : Int) = u := ⟨_, rfl⟩
  have k1 := fun dd os => Ret.regrown (unpack_any (s.extract 2 s.size) (M : Int) (grow (redrawn W0 dd) os) hexs (by omega))
  rw [hex, unpV_of hu] at k1
  have hlT : T.length ≤ M := by
    have h := unpack_len (s.data.toList.drop 2) (M : Int)
    rw [hu] at h
    simp only at h
    omega
  have HM := hid hM
  have HMi := hid hMi
  have Hu := hid hu
  clear hM hMi hu hex
  refine wp_region_quiet_below (by kernel_rfl) (by kernel_rfl) ?_
  iterate 9 (quiet_step (fail))
  quiet_step (exact k1 _ _)
  iterate 5 (quiet_step (fail))
  (refine wpQuiet_nil ?_; intro _ hw'; obtain ⟨⟨dq, osq⟩, hw''⟩ := hw'; subst hw'')
  have hbQ := below_regrown W0 dq osq
  have hB1 := bnext hB0 hbQ
  have HR1 := hid (blk_below HR.out hbQ)
  have HG1 := hid (blk_below HG.out hbQ)
  clear F0 F1 k1 e3 e4 e5 i1 i2 p0 p1 r0 r1 r2 f0 f1 f2 HR HG hbQ hz0 hB0 hgz
  generalize grow (redrawn W0 dq) osq = W1 at *
  have p0 := ppblk_cell HG1.out 0 (.int .i64 (P : Int)) rfl
  have p1 := ppblk_cell HG1.out 1 (.int .i64 (H : Int)) rfl
  have hR0 := ppblk_cell HR1.out 0 (.int .i64 0) rfl
  have hR1 := ppblk_cell HR1.out 1 (.int .i64 0) rfl
  have hR2 := ppblk_cell HR1.out 2 (.slice none 0 0) rfl
  have f0 := ppblk_free HR1.out 0
  have f1 := ppblk_free HR1.out 1
  have f2 := ppblk_free HR1.out 2
  by_cases hf : f = 0
  · subst hf
    rw [errV_zero]
    by_cases hl : T.length = M
    · have hsT : (strOf T).size = M := by rw [strOf_size, hl]
      have hmm : ((M : Int) != (M : Int)) = false := by simp
      have e5 : IntKind.i64.wrap ((H : Int) * (1 + 2 * (P : Int))) = (M : Int) := by rw [HMi.out]; exact IntWalk.i64_in _ (by omega)
      have Hl := hid hl
      clear hl
      go_wp2_with fail
      clear e5 hmm
      have HT0 := hid (show T = T.drop (0 * (1 + 2 * P)) by rw [Nat.zero_mul, List.drop_zero])
      go_loopw [5, 7, 74] (fun ts u i wr => ∃ (y : Nat) (acc : List Px) (UA : Option Addr) (Un Uc : Nat) (v : Value), y ≤ H ∧ i = .int .i64 y ∧ ts = .string (strOf (T.drop (y * (1 + 2 * P)))) ∧ u = .slice UA Un Uc ∧ PRd w wr g P H y T acc UA Un v) (fun _ _ i _ => H - (intOf i).toNat)
      case atStart =>
        refine ⟨0, [], none, 0, 0, .slice none 0 0, by omega, rfl, by rw [← HT0.out], rfl, ⟨⟨⟨rfl, Row.none_ _ _ _⟩, fun hn => absurd hn (by omega)⟩, ?_, by omega, PInv.start _ _ _, ⟨by omega, HG1.out, World.ownsRow_nil _ _ _ _⟩, HR1.out, hB1⟩⟩
        intro x hx; unfold upI at hx; simp at hx
      case round =>
        clear p0 p1 hR0 hR1 hR2 f0 f1 f2
        obtain ⟨y, acc, UA, Un, Uc, v, hy, rfl, rfl, rfl, hrd⟩ := hrel
        obtain ⟨wo, rfl⟩ : ∃ wo : World, wo = wr := ⟨_, rfl⟩
        have p0 := ppblk_cell hrd.box.2.1 0 (.int .i64 (P : Int)) rfl
        have p1 := ppblk_cell hrd.box.2.1 1 (.int .i64 (H : Int)) rfl
        have p2 := ppblk_cell hrd.box.2.1 2 v rfl
        by_cases hlt : y < H
        · obtain ⟨K, hK⟩ : ∃ K, y * (1 + 2 * P) = K := ⟨_, rfl⟩
          have hKM : K + (1 + 2 * P) ≤ M := by
            have h1 : (y + 1) * (1 + 2 * P) ≤ H * (1 + 2 * P) := Nat.mul_le_mul_right _ hlt
            rw [Nat.add_mul, HM.out, hK] at h1
            omega
          obtain ⟨c0, T1, hT1⟩ : ∃ c0 T1, T.drop K = c0 :: T1 := by
            cases h : T.drop K with
            | nil => have h2 := congrArg List.length h; rw [List.length_drop, Hl.out] at h2; simp at h2; omega
            | cons a b => exact ⟨a, b, rfl⟩
          have hlT1 : T1.length + 1 + K = M := by
            have h2 := congrArg List.length hT1
            rw [List.length_drop, Hl.out, List.length_cons] at h2
            omega
          have hget : (T.getD (y * (1 + 2 * P)) 0).toNat = c0.toNat := by rw [hK, ← drop_getD, hT1]; rfl
          have hdr : T.drop (y * (1 + 2 * P) + 1) = T1 := by rw [hK, ← List.drop_drop, hT1]; rfl
          rw [hK, hT1]
          have HK := hid hK
          have HT1 := hid hT1
          clear hT1 hK
          have hi0 : ∀ h, (strOf (c0 :: T1))[0]'h = c0 := fun _ => rfl
          have hsz : (strOf (c0 :: T1)).size = T1.length + 1 := strOf_size _
          have bc := UInt8.toNat_lt c0
          have Hget := hid hget
          have Hdr := hid hdr
          have hsz0 : 0 < (strOf (c0 :: T1)).size := by omega
          obtain ⟨way, hway⟩ : ∃ way, c0.toNat = way := ⟨_, rfl⟩
          by_cases hw4 : 4 ≤ way
          · have hV := hid (picOf_none (s := s.data.toList) (by rw [Hsz.out]; exact h2) Hp0.out Hp1.out ⟨w1, w2, w3, w4⟩ (by rw [HM.out]; exact Hu.out) (by rw [HM.out]; exact Hl.out) (hrd.inv.bad hlt (by rw [Hget.out, hway]; exact hw4)))
            go_wp2_with fail
            refine (guesses_at 0 (by omega) _).mono ?_
            rintro e w5 ⟨gg, rfl, -, -, hb5⟩
            have hrd5 := hrd.below hb5
            have hR0 := ppblk_cell hrd5.res 0 (.int .i64 0) rfl
            have hR1 := ppblk_cell hrd5.res 1 (.int .i64 0) rfl
            have hR2 := ppblk_cell hrd5.res 2 (.slice none 0 0) rfl
            have f0 := ppblk_free hrd5.res 0
            have f1 := ppblk_free hrd5.res 1
            have f2 := ppblk_free hrd5.res 2
            have hbF := hrd5.bel
            go_wp2_with fail
            refine bodyPost_ret (v := .tuple #[.agg #[.int .i64 0, .int .i64 0, .slice none 0 0], .iface 63 (.int .i64 4)]) (by simp [results, Tryd.results40, go_sem, hR0, hR1, hR2]) rfl ?_
            exact retPicE_bad hV.out (by decide) (((hbF.setCell (Nat.le_refl _) _).setCell (Nat.le_refl _) _).setCell (Nat.le_refl _) _)
          · have hst := hrd.inv.step hlt (by rw [Hget.out, hway]; omega)
            rw [Hget.out, hway, Hdr.out] at hst
            have hw4' : ¬ (4 : Int) ≤ (way : Int) := by omega
            have hwd : decide ((4 : Int) ≤ (way : Int)) = false := by simp; omega
            have hex1 : (strOf (c0 :: T1)).extract 1 (1 + 2 * P) = strOf (T1.take (2 * P)) := by
              rw [extract_strOf]
              congr 1
              rw [show 1 + 2 * P = 2 * P + 1 by omega, List.take_succ_cons]; rfl
            have hex2 : (strOf (c0 :: T1)).extract (1 + 2 * P) (strOf (c0 :: T1)).size = strOf (T1.drop (2 * P)) := by
              rw [extract_strOf, hsz, List.take_of_length_le (by simp), show 1 + 2 * P = 2 * P + 1 by omega]; rfl
            have hdn : T1.drop (2 * P) = T.drop ((y + 1) * (1 + 2 * P)) := by
              rw [Nat.add_mul, HK.out, Nat.one_mul, ← List.drop_drop, HT1.out, show 1 + 2 * P = 2 * P + 1 by omega]; rfl
            have hro : rowOf (T1.take (2 * P)) (upI P acc y) way (2 * P) = rowOf T1 (upI P acc y) way (2 * P) := by
              have h1 := rowOf_append (s := T1.take (2 * P)) (t := T1.drop (2 * P)) (up := upI P acc y) (way := way) (2 * P) (by rw [List.length_take]; omega)
              rw [List.take_append_drop] at h1
              exact h1.symm
            have hlr := rowOf_len T1 (upI P acc y) way (2 * P)
            have hlb := rowOf_bytes T1 (upI P acc y) way (2 * P)
            have hup := upI_snoc hrd.inv.2 hlr
            have hst2 : (strOf (T1.take (2 * P))).size = 2 * P := by rw [strOf_size, List.length_take]; omega
            have kr := fun W (h : Below wo.heap.size wo W) => row_any (strOf (T1.take (2 * P))) UA Un Uc (upI P acc y) way W (hrd.ints.1.below h) (by omega) (by have := hrd.few; omega) (by omega) hrd.bytes
            rw [strOf_data', hst2, hro] at kr
            generalize rowOf T1 (upI P acc y) way (2 * P) = R at *
            have Hkr := hid kr
            have Hst := hid hst
            have Hlr := hid hlr
            have Hlb := hid hlb
            have Hup := hid hup
            have Hdn := hid hdn
            have q1 : (1 : Int) ≤ 1 + 2 * (P : Int) := by omega
            have q2 : 1 + 2 * (P : Int) ≤ ((strOf (c0 :: T1)).size : Int) := by omega
            have q3 : (1 + 2 * (P : Int)).toNat = 1 + 2 * P := by omega
            clear kr hst hlr hlb hup hdn hro hst2 Hget Hdr
            go_wp2_with fail
            refine (guesses_at 0 (by omega) _).mono ?_
            rintro e w5 ⟨gg, rfl, -, -, hb5⟩
            have hrd5 := hrd.below hb5
            have HB5 := hid hb5
            have p0 := ppblk_cell hrd5.box.2.1 0 (.int .i64 (P : Int)) rfl
            clear hb5 p1 p2
            go_wp2_with fail
            refine (Hkr.out _ HB5.out).mono ?_
            rintro e w6 ⟨RA, Rc, rfl, hri, hrn, hrt, hb6⟩
            rw [Hlr.out] at hri hrt ⊢
            have hrd6 := hrd5.below hb6
            have p0 := ppblk_cell hrd6.box.2.1 0 (.int .i64 (P : Int)) rfl
            clear hrd5 hb6 HB5 hrd
            have Hrd6 := hid hrd6
            have HIT := hid (show IntsT w6 RA (2 * P) R from ⟨hri, hrt⟩)
            clear hrd6 hri hrt hrn
            have Hk0 := hid (show acc = acc ++ (pairsI R).take 0 by simp)
            have hal : acc.length ≤ 64 := by
              rw [Hrd6.out.inv.2]
              have : y * P ≤ 8 * 8 := Nat.mul_le_mul (by omega) w2
              omega
            have hpl := hid (pairs_len R P Hlr.out)
            go_wp2_with fail
            clear hex1 hi0 hw4' hwd q1 q3 hsz0
            go_loopw [96] (fun i wi => ∃ (x : Nat) (v2 : Value), x ≤ P ∧ i = .int .i64 x ∧ PPx w wi g P H R RA v2 (acc ++ (pairsI R).take x)) (fun i _ => P - (intOf i).toNat)
            case atStart => exact ⟨0, v, by omega, rfl, ⟨HIT.out, by rw [← Hk0.out]; exact Hrd6.out.box, Hrd6.out.res, Hrd6.out.bel⟩⟩
            case round =>
              clear p0
              obtain ⟨x, v2, hx, rfl, hpp⟩ := hrel
              by_cases hxl : x < P
              · have htk := pairs_take (l := R) Hlr.out hxl
                have hB2 : acc ++ (pairsI R).take (x + 1) = acc ++ (pairsI R).take x ++ [(R.getD (2 * x) 0, R.getD (2 * x + 1) 0)] := by rw [htk, List.append_assoc]
                have hBl : (acc ++ (pairsI R).take x).length ≤ 200 := by rw [List.length_append, List.length_take]; omega
                obtain ⟨rb, ro, rfl, y0, y1⟩ := hpp.ints.1.two (k := 2 * x) (by rw [Hlr.out]; omega)
                obtain ⟨A0, c9, rfl, -, -⟩ := own_slice hpp.box.2.2
                have HB2 := hid hB2
                clear htk hB2
                generalize acc ++ (pairsI R).take x = B at *
                generalize R.getD (2 * x) 0 = qa at *
                generalize R.getD (2 * x + 1) 0 = qb at *
                have z2 := ppblk_cell hpp.box.2.1 2 (.slice A0 B.length c9) rfl
                obtain ⟨i0, hi, hz0, hz1, hz2⟩ := info_parts info_px
                have e1 : IntKind.i64.wrap (2 * (x : Int)) = 2 * (x : Int) := IntWalk.i64_in _ (by omega)
                have e2 : IntKind.i64.wrap (2 * (x : Int) + 1) = 2 * (x : Int) + 1 := IntWalk.i64_in _ (by omega)
                have x1 : (2 * (x : Int)).toNat = 2 * x := by omega
                have x2 : (2 * (x : Int) + 1).toNat = 2 * x + 1 := by omega
                have x3 : (0 : Int) ≤ 2 * (x : Int) := by omega
                have x4 : (0 : Int) ≤ 2 * (x : Int) + 1 := by omega
                have x5 : 2 * (x : Int) < 2 * (P : Int) := by omega
                have x6 : 2 * (x : Int) + 1 < 2 * (P : Int) := by omega
                have hgl : g < wr.heap.size := (Array.getElem?_eq_some_iff.1 hpp.box.2.1).1
                have hgn : ¬ g = wr.heap.size := by omega
                have Hpp := hid hpp
                clear hpp
                go_upto_region 21 with fail
                go_region_law
                  ((refine step_append_lies _ (by rfl) _ _ _ (by rfl) w.heap.size 52 i0 (.agg #[.int .i64 0, .int .i64 0]) 2 16 Tryd.underlying44 hi hz0 hz1 hz2 rfl (by decide) _ _ _ (by rfl) (own_keep Hpp.out.box.2.2 (((Below.refl wr.heap.size wr).drew).alloc (Nat.le_refl _) (.cells #[.int .i64 qa, .int .i64 qb] 52))) ⟨_, 0, none⟩ 1 1 [.int .i64 qa, .int .i64 qb] (by rfl) rfl (new_cells _ _ _) (by intro u hu; simp at hu; rcases hu with rfl | rfl <;> rfl) (by decide) (by unfold maxLen; omega) (by omega) (by have h1 := Hpp.out.bel.size; simp; omega) _ rfl ?_; intro ga ca w1 hown1 hgrow hat hlt1; have hps := Hpp.out.push (q := (qa, qb)) hgw hown1 hgrow; have z3 := ppblk_cell hps.2 2 (.slice A0 B.length c9) rfl; have z4 := ppblk_free hps.2 2))
                all_goals (have HPS := hid hps.1)
                all_goals (clear hgrow hown1 hat hlt1 z2 z3 z4 hps y0 y1 e1 e2 x1 x2 x3 x4 x5 x6 Hpp hgl hgn)
                all_goals (go_wp2_with fail)
                all_goals go_roundw
                all_goals (try (case rel => exact ⟨x + 1, _, by omega, by go_num, by rw [HB2.out]; exact HPS.out⟩))
                all_goals (try (case measure => simp [intOf]; omega))
              · obtain rfl : P = x := by omega
                have hfu : acc ++ (pairsI R).take P = acc ++ pairsI R := by rw [List.take_of_length_le (by rw [hpl.out.1]; exact Nat.le_refl _)]
                rw [hfu] at hpp
                have p0 := ppblk_cell hpp.box.2.1 0 (.int .i64 (P : Int)) rfl
                have q0 : (0 : Int) ≤ 1 + 2 * (P : Int) := by omega
                have q3 : (1 + 2 * (P : Int)).toNat = 1 + 2 * P := by omega
                have HNX := hid (show PRd w wr g P H (y + 1) T (acc ++ pairsI R) RA (2 * P) v2 from ⟨by rw [Hup.out]; exact hpp.ints, by rw [Hup.out]; exact Hlb.out, by omega, Hst.out, hpp.box, hpp.res, hpp.bel⟩)
                clear hpp hfu hsz
                go_wp2_with fail
                go_roundw
                case rel => exact ⟨y + 1, acc ++ pairsI R, RA, 2 * P, Rc, v2, by omega, by go_num, by rw [Hdn.out], rfl, HNX.out⟩
                case measure => simp [intOf]; omega
        · obtain rfl : H = y := by omega
          have hpr := hrd.inv.done
          have hV := hid (picOf_some (s := s.data.toList) (by rw [Hsz.out]; exact h2) Hp0.out Hp1.out ⟨w1, w2, w3, w4⟩ (by rw [HM.out]; exact Hu.out) (by rw [HM.out]; exact Hl.out) hpr)
          obtain ⟨A0, c9, rfl, hA, -⟩ := own_slice hrd.box.2.2
          have p2 := ppblk_cell hrd.box.2.1 2 (.slice A0 acc.length c9) rfl
          have hR0 := ppblk_cell hrd.res 0 (.int .i64 0) rfl
          have hR1 := ppblk_cell hrd.res 1 (.int .i64 0) rfl
          have hR2 := ppblk_cell hrd.res 2 (.slice none 0 0) rfl
          have f0 := ppblk_free hrd.res 0
          have f1 := ppblk_free hrd.res 1
          have f2 := ppblk_free hrd.res 2
          have hbF := hrd.bel
          have Hown := hid hrd.box.2.2
          have Hrs := hid hrd.res
          clear hpr hrd
          go_wp2_with fail
          refine bodyPost_ret (v := .tuple #[.agg #[.int .i64 (P : Int), .int .i64 (H : Int), .slice A0 acc.length c9], .nilIface]) (by simp [results, Tryd.results40, go_sem, hR0, hR1, hR2]) rfl ?_
          refine ⟨A0, c9, by rw [hV.out]; rfl, ?_, fun a ha => (hA a ha).1, ((hbF.setCell (Nat.le_refl _) _).setCell (Nat.le_refl _) _).setCell (Nat.le_refl _) _⟩
          have hne := own_ne (own_apart Hown.out Hrs.out (by decide)) Hown.out
          rw [hV.out]
          exact ⟨rfl, row_set (row_set (row_set (Row.of_own Hown.out) hne) hne) hne⟩
    · have hV := hid (picOf_less (s := s.data.toList) (by rw [Hsz.out]; exact h2) Hp0.out Hp1.out ⟨w1, w2, w3, w4⟩ (by rw [HM.out]; exact Hu.out) (by rw [HM.out]; exact hl))
      have hsT := strOf_size T
      have hne : ((T.length : Int) != (M : Int)) = true := by simp; omega
      have e5 : IntKind.i64.wrap ((H : Int) * (1 + 2 * (P : Int))) = (M : Int) := by rw [HMi.out]; exact IntWalk.i64_in _ (by omega)
      go_wp2_with fail
      refine bodyPost_ret (v := .tuple #[.agg #[.int .i64 0, .int .i64 0, .slice none 0 0], .iface 63 (.int .i64 4)]) (by simp [results, Tryd.results40, go_sem, hR0, hR1, hR2]) rfl ?_
      exact retPicE_bad hV.out (by decide) (((hB1.setCell (Nat.le_refl _) _).setCell (Nat.le_refl _) _).setCell (Nat.le_refl _) _)
  · have hV := hid (picOf_unp (s := s.data.toList) (by rw [Hsz.out]; exact h2) Hp0.out Hp1.out ⟨w1, w2, w3, w4⟩ (by rw [HM.out]; exact Hu.out) hf)
    rw [errV_pos hf]
    have Hf := hid hf
    clear hf
    go_wp2_with fail
    refine bodyPost_ret (v := .tuple #[.agg #[.int .i64 0, .int .i64 0, .slice none 0 0], .iface 63 (.int .i64 f)]) (by simp [results, Tryd.results40, go_sem, hR0, hR1, hR2]) rfl ?_
    exact retPicE_bad hV.out Hf.out (((hB1.setCell (Nat.le_refl _) _).setCell (Nat.le_refl _) _).setCell (Nat.le_refl _) _)
end Fb

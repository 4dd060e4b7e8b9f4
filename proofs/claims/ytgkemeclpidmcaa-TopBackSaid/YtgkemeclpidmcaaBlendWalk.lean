/- slices.Clone at pixels, blend.whole, the closures of Add and Put, the reference's Over. Conditions: bounds on lengths and pixels. -/
import Derived.Test.YtgkemeclpidmcaaBlendLaw
import Derived.Test.YtgkemeclpidmcaaOverWalk
import Derived.Test.YtgkemeclpidmcaaOwnKit
import Derived.Test.YtgkemeclpidmcaaStructEq
import Derived.RegionTactic
namespace Fb
open Go Go.Proofs Go.RowKit Go.Sort
theorem info_px : (Try.prog.info? 42).map (fun i => (i.zero, i.size, i.bytes)) = some (some (.agg #[.int .i64 0, .int .i64 0]), 2, 16) := by kernel_rfl
/-- the call returns a slice of its own that holds the cells xs -/
def RetOwn (t : TypeId) (size : Nat) (xs : List Value) (n : Nat) (w : World) (e : Ending) (w' : World) : Prop := ∃ v, e = .returned v ∧ w'.ownsRow w.heap.size t size v n xs ∧ Below w.heap.size w w'
theorem pxCells_cell {l : List Px} {u : Value} (h : u ∈ pxCells l) : u.oneCell' = true := by
  unfold pxCells at h
  obtain ⟨p, _, hp⟩ := List.mem_flatMap.1 h
  simp at hp
  rcases hp with rfl | rfl <;> rfl
theorem pxCells_len (l : List Px) : (pxCells l).length = l.length * 2 := flat_len (enc := fun p : Px => [.int .i64 p.1, .int .i64 p.2]) (fun _ => rfl) l
set_option maxRecDepth 100000 in
set_option maxHeartbeats 800000 in
theorem clonepx_any (A : Option Addr) (n c : Nat) (l : List Px) (w : World) (hl : Pixs w A n l) (hn : n ≤ 1000000) :
    Calls Try.prog 84 #[.slice A n c] w (RetOwn 42 2 (pxCells l) n w) := by
  have Hl := hid hl.1
  obtain ⟨i0, hi, hz0, hz1, hz2⟩ := info_parts info_px
  have hnil := fun W => Lib.run_eql_slice_nil (P := Try.prog) W 47 42 A n c 0 0 Try.underlying47
  cases A with
  | none =>
    have h0 : n = 0 := by
      rcases Nat.eq_zero_or_pos n with h0 | h0
      · exact h0
      · obtain ⟨_, _, e, _⟩ := hl.2.2 h0; cases e
    subst h0
    have hnil : l = [] := List.eq_nil_of_length_eq_zero Hl.out
    subst hnil
    clear hl
    go_enter Try.func84, Try.ntmps84
    go_wp2
    go_ret
    exact ⟨_, rfl, World.ownsRow_nil _ _ _ _, Below.refl _ _⟩
  | some a =>
    have hnews : ∀ j u, (pxCells l)[j]? = some u → w.cell? (a.add j) = some u := by
      intro j u hu
      have hj := (List.getElem?_eq_some_iff.1 hu).1
      rw [pxCells_len, Hl.out] at hj
      obtain ⟨b, off, e, hb, hc⟩ := hl.2.2 (by omega)
      injection e with e
      subst e
      rw [show (⟨b, off, none⟩ : Addr).add j = ⟨b, off + j, none⟩ from by
        unfold Addr.add
        by_cases h : j = 0
        · subst h; simp
        · rw [if_neg h]]
      exact hc j u hu
    have hblk : n * 2 = (pxCells l).length := by rw [pxCells_len, Hl.out]
    have hown0 := World.ownsRow_lit (base := w.heap.size) (e := 42) (size := 2) w #[] 0 (Nat.le_refl _) (by simp [maxLen]) rfl
    have Hnews := hid hnews
    have Hblk := hid hblk
    clear hnews hblk
    go_enter Try.func84, Try.ntmps84
    go_wp2_with (at_builtin; refine wpList_append_own _ rfl _ _ 47 rfl w.heap.size 42 i0 (.agg #[.int .i64 0, .int .i64 0]) 2 16 Try.underlying47 hi hz0 hz1 hz2 rfl (by decide) _ _ _ rfl hown0 a n c (pxCells l) rfl Hblk.out.symm ?c1 ?c2 ?c3 ?c4 ?c5 ?_)
    case c1 =>
      intro j u hu
      have h := Hnews.out j u hu
      have hlt := World.block_lt_of_cell? w _ h
      exact (((Below.refl w.heap.size w).alloc (Nat.le_refl _) (.cells #[] 42)).cell (p := a.add j) hlt).trans h
    case c2 => exact fun u hu => pxCells_cell hu
    case c3 => unfold maxLen; omega
    case c4 => omega
    intro v' w1 hown' hgrow _
    have hbel1 : Below w.heap.size w w1 := (((Below.refl w.heap.size w).alloc (Nat.le_refl _) (.cells #[] 42))).grown hgrow (by simp) (fun g hg => (hown0.lt g hg).1)
    have HO : w1.ownsRow w.heap.size 42 2 v' n (pxCells l) := by simpa using hown'
    clear hown' hgrow
    go_wp2_with fail
    go_ret
    exact ⟨_, rfl, HO, hbel1⟩
set_option maxRecDepth 100000 in
set_option maxHeartbeats 400000 in
theorem whole_any (r : FAt FPic) (w : World) :
    Calls Try.prog 86 #[.agg #[.int .i64 r.x.w, .int .i64 r.x.h, .slice r.A r.n r.c]] w (Ret (.agg #[.int .i64 0, .int .i64 0, .int .i64 r.x.w, .int .i64 r.x.h]) w) := by
  go_enter Try.func86, Try.ntmps86
  go_wp2
  refine bodyPost_ret (v := .agg #[.int .i64 0, .int .i64 0, .int .i64 r.x.w, .int .i64 r.x.h]) (by simp [results, Try.results86, go_sem]) rfl ⟨rfl, ?_⟩
  (repeat (first | with_reducible exact Below.refl _ _ | with_reducible refine Below.alloc ?_ (by simp; try omega) _ | with_reducible refine Below.setCell ?_ (by simp; try omega) _ | with_reducible refine below_drewN ?_ _ | with_reducible refine Below.drew ?_))
set_option maxRecDepth 100000 in
set_option maxHeartbeats 400000 in
theorem add1_any (a b : Px) (ha : PxFine a) (hb : PxFine b) (w : World) :
    Calls Try.prog 78 #[.agg #[.int .i64 a.1, .int .i64 a.2], .agg #[.int .i64 b.1, .int .i64 b.2]] w (Ret (.agg #[.int .i64 (addP a b).1, .int .i64 (addP a b).2]) w) := by
  obtain ⟨a0, a1, a2, a3⟩ := ha
  obtain ⟨b0, b1, b2, b3⟩ := hb
  go_enter Try.func78, Try.ntmps78
  go_wp2
  refine bodyPost_ret (v := .agg #[.int .i64 ((a.1 + b.1) % 256), .int .i64 ((a.2 + b.2) % 256)]) (by simp [results, Try.results78, go_sem]) rfl ⟨rfl, ?_⟩
  (repeat (first | with_reducible exact Below.refl _ _ | with_reducible refine Below.alloc ?_ (by simp; try omega) _ | with_reducible refine Below.setCell ?_ (by simp; try omega) _ | with_reducible refine below_drewN ?_ _ | with_reducible refine Below.drew ?_))
set_option maxRecDepth 100000 in
set_option maxHeartbeats 400000 in
theorem put1_any (a b : Px) (w : World) :
    Calls Try.prog 79 #[.agg #[.int .i64 a.1, .int .i64 a.2], .agg #[.int .i64 b.1, .int .i64 b.2]] w (Ret (.agg #[.int .i64 b.1, .int .i64 b.2]) w) := by
  go_enter Try.func79, Try.ntmps79
  go_wp2
  refine bodyPost_ret (v := .agg #[.int .i64 b.1, .int .i64 b.2]) (by simp [results, Try.results79, go_sem]) rfl ⟨rfl, ?_⟩
  (repeat (first | with_reducible exact Below.refl _ _ | with_reducible refine Below.alloc ?_ (by simp; try omega) _ | with_reducible refine Below.setCell ?_ (by simp; try omega) _ | with_reducible refine below_drewN ?_ _ | with_reducible refine Below.drew ?_))
/-! ## only one block has turned -/
theorem gb_refl (w : World) (r : Option Nat) : w.grownBy w r := ⟨rfl, rfl, rfl, Nat.le_refl _, fun _ _ _ => rfl⟩
theorem gb_below {a w w' : World} {r : Option Nat} (h : a.grownBy w r) (hb : Below w.heap.size w w') : a.grownBy w' r :=
  ⟨hb.os.trans h.os, hb.tape.trans h.tape, hb.output.trans h.output, Nat.le_trans h.size hb.size, fun k hk hne => (hb.block k (Nat.lt_of_lt_of_le hk h.size)).trans (h.block k hk hne)⟩
theorem gb_drewN {a w : World} {r : Option Nat} (h : a.grownBy w r) (n : Nat) : a.grownBy (w.drewN n) r := ⟨h.os, h.tape, h.output, h.size, h.block⟩
theorem gb_drew {a w : World} {r : Option Nat} (h : a.grownBy w r) : a.grownBy w.drew r := ⟨h.os, h.tape, h.output, h.size, h.block⟩
theorem gb_set {a w : World} {g : Nat} (h : a.grownBy w (some g)) (o : Nat) (u : Value) : a.grownBy (w.setCell ⟨g, o, none⟩ u) (some g) :=
  ⟨h.os, h.tape, h.output, by simpa using h.size, fun k hk hne => (Below.heap_setCell w ⟨g, o, none⟩ u k (fun e => hne (by rw [e]))).trans (h.block k hk hne)⟩
theorem gb_cell {a w : World} {g b o : Nat} {v : Value} (h : a.grownBy w (some g)) (hb : b < a.heap.size) (hne : b ≠ g) (hc : a.cell? ⟨b, o, none⟩ = some v) : w.cell? ⟨b, o, none⟩ = some v := by
  rw [World.cell?_of_block (w := a) (w' := w) (h.block b hb (fun e => hne (by injection e)))]
  exact hc
theorem pxCells_set (l : List Px) (k : Nat) (p : Px) : ((pxCells l).set (k * 2) (.int .i64 p.1)).set (k * 2 + 1) (.int .i64 p.2) = pxCells (l.set k p) := by
  induction l generalizing k with
  | nil => simp [pxCells]
  | cons a l ih =>
    cases k with
    | zero => simp [pxCells]
    | succ k =>
      have e : (k + 1) * 2 = k * 2 + 1 + 1 := by omega
      have := ih k
      simp only [pxCells, List.flatMap_cons, List.set_cons_succ] at this ⊢
      rw [e]
      simp only [List.cons_append, List.nil_append, List.set_cons_succ, this]
theorem own_px {w : World} {base g n cap : Nat} {l : List Px} (h : w.ownsRow base 42 2 (.slice (some ⟨g, 0, none⟩) n cap) n (pxCells l)) {k : Nat} {p : Px} (hk : l[k]? = some p) :
    w.cell? ⟨g, k * 2, none⟩ = some (.int .i64 p.1) ∧ w.cell? ⟨g, k * 2 + 1, none⟩ = some (.int .i64 p.2) := by
  have h0 := own_cell (cel := fun p : Px => [.int .i64 p.1, .int .i64 p.2]) (fun _ => rfl) h hk (j := 0) (by decide)
  have h1 := own_cell (cel := fun p : Px => [.int .i64 p.1, .int .i64 p.2]) (fun _ => rfl) h hk (j := 1) (by decide)
  exact ⟨by simpa using h0, by simpa using h1⟩
theorem own_set {w : World} {base g n cap : Nat} {l : List Px} (h : w.ownsRow base 42 2 (.slice (some ⟨g, 0, none⟩) n cap) n (pxCells l)) (k : Nat) (p : Px) :
    ((w.setCell ⟨g, k * 2, none⟩ (.int .i64 p.1)).setCell ⟨g, k * 2 + 1, none⟩ (.int .i64 p.2)).ownsRow base 42 2 (.slice (some ⟨g, 0, none⟩) n cap) n (pxCells (l.set k p)) := by
  rw [← pxCells_set]
  exact ((h.stored (k * 2) (.int .i64 p.1)).1.stored (k * 2 + 1) (.int .i64 p.2)).1
theorem gb_frozen {a w : World} {g b o : Nat} (h : a.grownBy w (some g)) (hb : b < a.heap.size) (hne : b ≠ g) (hc : a.frozen? ⟨b, o, none⟩ = false) : w.frozen? ⟨b, o, none⟩ = false := by
  rw [World.frozen?_of_block (w := a) (w' := w) (h.block b hb (fun e => hne (by injection e)))]
  exact hc
theorem pixs_own {w : World} {base g n cap : Nat} {l : List Px} (h : w.ownsRow base 42 2 (.slice (some ⟨g, 0, none⟩) n cap) n (pxCells l)) (hl : l.length = n) : Pixs w (some ⟨g, 0, none⟩) n l := ⟨hl, Row.of_own h⟩
end Fb

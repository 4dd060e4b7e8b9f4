/- The reference's machine in memory. Conditions: those of each lemma. -/
import Derived.Test.YtgkemeclpidmcaaMachAll
set_option linter.unusedSimpArgs false
set_option linter.unusedVariables false
namespace Fb
open Go Go.Proofs Go.RowKit Go.Sort
attribute [local go_sem ↓] Go.wp_at_zero Go.wp_at_succ
theorem KeepM.weak {Z Z' : Nat → Prop} {w w' : World} (h : KeepM Z w w') (hz : ∀ b, Z b → Z' b) : KeepM Z' w w' := ⟨h.os, h.tape, h.output, h.size, fun k hk hn => h.block k hk (fun e => hn (hz k e))⟩
theorem KeepM.grown {y : Nat} {w w' : World} (h : KeepM (fun b => b = y) w w') : w.grownBy w' (some y) := ⟨h.os, h.tape, h.output, h.size, fun k hk hn => h.block k hk (fun e => hn (by rw [e]))⟩
theorem KeepM.toBelow {Z : Nat → Prop} {w0 w w' : World} {B : Nat} (hb : Below B w0 w) (h : KeepM Z w w') (hB : B ≤ w.heap.size) (hz : ∀ b, Z b → B ≤ b) : Below B w0 w' :=
  hb.trans ⟨h.os, h.tape, h.output, h.size, fun k hk => h.block k (by omega) (fun e => by have := hz k e; omega)⟩
theorem Row.keptM {Z : Nat → Prop} {w w' : World} {A : Option Addr} {n size : Nat} {cs : List Value} (hf : FarR Z A n) (h : Row w A n size cs) (hk : KeepM Z w w') : Row w' A n size cs :=
  ⟨h.1, fun hn => by
    obtain ⟨b, off, e, hb, hc⟩ := h.2 hn
    exact ⟨b, off, e, Nat.lt_of_lt_of_le hb hk.size, fun j u hu => (World.cell?_of_block (a := ⟨b, off + j, none⟩) (hk.block b hb (hf hn _ e))).trans (hc j u hu)⟩⟩
theorem FObjs.keptM {Z : Nat → Prop} {w w' : World} {A : Option Addr} {n : Nat} {rs : List (FAt FObj)} (h : FObjs Z w A n rs) (hk : KeepM Z w w') : FObjs Z w' A n rs :=
  ⟨⟨h.objs.1, h.objs.2.1.keptM h.far hk, fun r hr => ⟨(h.objs.2.2 r hr).1, (h.objs.2.2 r hr).2.keptM (h.pics r hr) hk⟩⟩, h.far, h.pics⟩
theorem FOps.keptM {Z : Nat → Prop} {w w' : World} {A : Option Addr} {n : Nat} {rs : List (FAt FOp)} (h : FOps Z w A n rs) (hk : KeepM Z w w') : FOps Z w' A n rs :=
  ⟨⟨h.ops.1, h.ops.2.1.keptM h.far hk, fun r hr => ⟨(h.ops.2.2 r hr).1, (h.ops.2.2 r hr).2.keptM (h.pics r hr) hk⟩⟩, h.far, h.pics⟩
theorem FFrs.keptM {Z : Nat → Prop} {w w' : World} {rs : List (FAt FFrame)} (h : FFrs Z w rs) (hk : KeepM Z w w') : FFrs Z w' rs :=
  ⟨fun r hr => ⟨(h.pixs r hr).1, (h.pixs r hr).2.keptM (h.pics r hr) hk⟩, h.pics⟩
/-- what the reference's machine's fields hold, and what they read as -/
structure RSl where
  lA : Option Addr
  ln : Nat
  lc : Nat
  ols : List (FAt FOp)
  tA : Option Addr
  tn : Nat
  tc : Nat
  oA : Option Addr
  on : Nat
  oc : Nat
  os : List (FAt FObj)
  sA : Option Addr
  sn : Nat
  sc : Nat
  ss : List (FAt FObj)
  fA : Option Addr
  fn : Nat
  fc : Nat
  frs : List (FAt FFrame)
def RSl.cells (r : RSl) (s : MSt) : Array Value := #[.slice r.lA r.ln r.lc, .int .i64 (s.at_ : Int), .slice r.tA r.tn r.tc, .slice r.oA r.on r.oc, .slice r.sA r.sn r.sc, .int .i64 s.back.1, .int .i64 s.back.2, .slice r.fA r.fn r.fc]
/-- the data lie apart from the machine's own block, and from those of F -/
def RZ (F : Nat → Prop) (y b : Nat) : Prop := b = y ∨ F b
structure RefR (l : List FOp) (s : MSt) (F : Nat → Prop) (y : Nat) (r : RSl) (W : World) : Prop where
  ops : FOps (RZ F y) W r.lA r.ln r.ols
  opsd : datO r.ols = l
  opsn : ∀ q ∈ r.ols, q.n ≤ 100
  turns : Row W r.tA r.tn 2 (s.turns.flatMap turnC)
  turnsf : FarR (RZ F y) r.tA r.tn
  turnsn : s.turns.length = r.tn
  turnsc : r.tn ≤ r.tc
  objs : FObjs (RZ F y) W r.oA r.on r.os
  objsd : dat r.os = s.objs
  saved : FObjs (RZ F y) W r.sA r.sn r.ss
  savedd : dat r.ss = s.saved
  frames : Row W r.fA r.fn 4 (r.frs.flatMap frCells)
  framesf : FarR (RZ F y) r.fA r.fn
  framesn : r.frs.length = r.fn
  framesd : frD r.frs = s.frames
  pics : FFrs (RZ F y) W r.frs
structure RefW (l : List FOp) (s : MSt) (F : Nat → Prop) (y : Nat) (r : RSl) (W : World) : Prop where
  box : W.heap[y]? = some (.cells (r.cells s) 44)
  flt : ∀ b, F b → b < W.heap.size
  fy : ¬ F y
  rest : RefR l s F y r W
theorem RefR.keptM {l : List FOp} {s : MSt} {F : Nat → Prop} {y : Nat} {r : RSl} {W W' : World} (h : RefR l s F y r W) (hk : KeepM (RZ F y) W W') : RefR l s F y r W' :=
  ⟨h.ops.keptM hk, h.opsd, h.opsn, h.turns.keptM h.turnsf hk, h.turnsf, h.turnsn, h.turnsc, h.objs.keptM hk, h.objsd, h.saved.keptM hk, h.savedd, h.frames.keptM h.framesf hk, h.framesf, h.framesn, h.framesd, h.pics.keptM hk⟩
theorem RefR.far {l : List FOp} {s : MSt} {F F' : Nat → Prop} {y : Nat} {r : RSl} {W : World} (h : RefR l s F y r W) (hz : ∀ b, RZ F' y b → RZ F y b ∨ W.heap.size ≤ b) : RefR l s F' y r W :=
  ⟨h.ops.more hz, h.opsd, h.opsn, h.turns, h.turnsf.more h.turns hz, h.turnsn, h.turnsc, h.objs.more hz, h.objsd, h.saved.more hz, h.savedd, h.frames, h.framesf.more h.frames hz, h.framesn, h.framesd, h.pics.more hz⟩
theorem RefR.same {l : List FOp} {s s' : MSt} {F : Nat → Prop} {y : Nat} {r : RSl} {W : World} (h : RefR l s F y r W) (h1 : s'.turns = s.turns) (h2 : s'.objs = s.objs) (h3 : s'.saved = s.saved) (h4 : s'.frames = s.frames) : RefR l s' F y r W :=
  ⟨h.ops, h.opsd, h.opsn, by rw [h1]; exact h.turns, h.turnsf, by rw [h1]; exact h.turnsn, h.turnsc, h.objs, by rw [h2]; exact h.objsd, h.saved, by rw [h3]; exact h.savedd, h.frames, h.framesf, h.framesn, by rw [h4]; exact h.framesd, h.pics⟩
theorem RefR.objsTo {l : List FOp} {s s' : MSt} {F : Nat → Prop} {y : Nat} {r : RSl} {W : World} (h : RefR l s F y r W) {A : Option Addr} {n c : Nat} {rs : List (FAt FObj)} (ho : FObjs (RZ F y) W A n rs) (hd : dat rs = s'.objs) (h1 : s'.turns = s.turns) (h3 : s'.saved = s.saved) (h4 : s'.frames = s.frames) :
    RefR l s' F y { r with oA := A, on := n, oc := c, os := rs } W :=
  ⟨h.ops, h.opsd, h.opsn, by rw [h1]; exact h.turns, h.turnsf, by rw [h1]; exact h.turnsn, h.turnsc, ho, hd, h.saved, by rw [h3]; exact h.savedd, h.frames, h.framesf, h.framesn, by rw [h4]; exact h.framesd, h.pics⟩
theorem RefR.savedTo {l : List FOp} {s s' : MSt} {F : Nat → Prop} {y : Nat} {r : RSl} {W : World} (h : RefR l s F y r W) {A : Option Addr} {n c : Nat} {rs : List (FAt FObj)} (ho : FObjs (RZ F y) W A n rs) (hd : dat rs = s'.saved) (h1 : s'.turns = s.turns) (h2 : s'.objs = s.objs) (h4 : s'.frames = s.frames) :
    RefR l s' F y { r with sA := A, sn := n, sc := c, ss := rs } W :=
  ⟨h.ops, h.opsd, h.opsn, by rw [h1]; exact h.turns, h.turnsf, by rw [h1]; exact h.turnsn, h.turnsc, h.objs, by rw [h2]; exact h.objsd, ho, hd, h.frames, h.framesf, h.framesn, by rw [h4]; exact h.framesd, h.pics⟩
theorem RefR.turnsTo {l : List FOp} {s s' : MSt} {F : Nat → Prop} {y : Nat} {r : RSl} {W : World} (h : RefR l s F y r W) {A : Option Addr} {n c : Nat} (ht : Row W A n 2 (s'.turns.flatMap turnC)) (hf : FarR (RZ F y) A n) (hn : s'.turns.length = n) (hc : n ≤ c) (h2 : s'.objs = s.objs) (h3 : s'.saved = s.saved) (h4 : s'.frames = s.frames) :
    RefR l s' F y { r with tA := A, tn := n, tc := c } W :=
  ⟨h.ops, h.opsd, h.opsn, ht, hf, hn, hc, h.objs, by rw [h2]; exact h.objsd, h.saved, by rw [h3]; exact h.savedd, h.frames, h.framesf, h.framesn, by rw [h4]; exact h.framesd, h.pics⟩
theorem RefR.framesTo {l : List FOp} {s s' : MSt} {F : Nat → Prop} {y : Nat} {r : RSl} {W : World} (h : RefR l s F y r W) {A : Option Addr} {n c : Nat} {frs : List (FAt FFrame)} (ht : Row W A n 4 (frs.flatMap frCells)) (hf : FarR (RZ F y) A n) (hn : frs.length = n) (hd : frD frs = s'.frames) (hp : FFrs (RZ F y) W frs) (h1 : s'.turns = s.turns) (h2 : s'.objs = s.objs) (h3 : s'.saved = s.saved) :
    RefR l s' F y { r with fA := A, fn := n, fc := c, frs := frs } W :=
  ⟨h.ops, h.opsd, h.opsn, by rw [h1]; exact h.turns, h.turnsf, by rw [h1]; exact h.turnsn, h.turnsc, h.objs, by rw [h2]; exact h.objsd, h.saved, by rw [h3]; exact h.savedd, ht, hf, hn, hd, hp⟩
theorem RefW.lt {l : List FOp} {s : MSt} {F : Nat → Prop} {y : Nat} {r : RSl} {W : World} (h : RefW l s F y r W) : y < W.heap.size := (Array.getElem?_eq_some_iff.1 h.box).1
theorem RefW.zlt {l : List FOp} {s : MSt} {F : Nat → Prop} {y : Nat} {r : RSl} {W : World} (h : RefW l s F y r W) : ∀ b, RZ F y b → b < W.heap.size := by
  rintro b (e | e)
  · rw [e]; exact h.lt
  · exact h.flt b e
theorem RefW.below {l : List FOp} {s : MSt} {F : Nat → Prop} {y : Nat} {r : RSl} {W W' : World} (h : RefW l s F y r W) (hb : Below W.heap.size W W') : RefW l s F y r W' :=
  ⟨blk_keep h.box hb, fun b e => Nat.lt_of_lt_of_le (h.flt b e) hb.size, h.fy, h.rest.keptM (KeepM.of_below hb)⟩
/-- the other machine goes on -/
theorem RefW.beside {l : List FOp} {s : MSt} {F F' : Nat → Prop} {y : Nat} {r : RSl} {W W' : World} (h : RefW l s F y r W) (hk : KeepM F W W') (hz : ∀ b, F' b → F b ∨ W.heap.size ≤ b) (hl : ∀ b, F' b → b < W'.heap.size) : RefW l s F' y r W' := by
  have hy := h.lt
  have hz2 : ∀ b, RZ F' y b → RZ F y b ∨ W.heap.size ≤ b := by
    rintro b (e | e)
    · exact Or.inl (Or.inl e)
    · rcases hz b e with e | e
      · exact Or.inl (Or.inr e)
      · exact Or.inr e
  -- far from the new blocks at W, then kept
  have h1 := h.rest.far (F' := fun b => F b ∨ F' b) (by
    rintro b (e | e | e)
    · exact Or.inl (Or.inl e)
    · exact Or.inl (Or.inr e)
    · exact hz2 b (Or.inr e))
  have h2 := h1.keptM (hk.weak (Z' := RZ (fun b => F b ∨ F' b) y) (fun b e => Or.inr (Or.inl e)))
  refine ⟨(hk.block y hy h.fy).trans h.box, hl, fun e => ?_, h2.far (by
    rintro b (e | e)
    · exact Or.inl (Or.inl e)
    · exact Or.inl (Or.inr (Or.inr e)))⟩
  rcases hz y e with e | e
  · exact h.fy e
  · omega
theorem RefW.cell {l : List FOp} {s : MSt} {F : Nat → Prop} {y : Nat} {r : RSl} {W : World} (h : RefW l s F y r W) :
    W.cell? ⟨y, 0, none⟩ = some (.slice r.lA r.ln r.lc) ∧ W.cell? ⟨y, 1, none⟩ = some (.int .i64 (s.at_ : Int)) ∧ W.cell? ⟨y, 2, none⟩ = some (.slice r.tA r.tn r.tc) ∧ W.cell? ⟨y, 3, none⟩ = some (.slice r.oA r.on r.oc) ∧ W.cell? ⟨y, 4, none⟩ = some (.slice r.sA r.sn r.sc) ∧
    W.cell? ⟨y, 5, none⟩ = some (.int .i64 s.back.1) ∧ W.cell? ⟨y, 6, none⟩ = some (.int .i64 s.back.2) ∧ W.cell? ⟨y, 7, none⟩ = some (.slice r.fA r.fn r.fc) :=
  ⟨opblk_cell h.box 0 _ rfl, opblk_cell h.box 1 _ rfl, opblk_cell h.box 2 _ rfl, opblk_cell h.box 3 _ rfl, opblk_cell h.box 4 _ rfl, opblk_cell h.box 5 _ rfl, opblk_cell h.box 6 _ rfl, opblk_cell h.box 7 _ rfl⟩
theorem RefR.sety {l : List FOp} {s : MSt} {F : Nat → Prop} {y : Nat} {r : RSl} {W : World} (h : RefR l s F y r W) (o : Nat) (u : Value) : RefR l s F y r (W.setCell ⟨y, o, none⟩ u) :=
  h.keptM (KeepM.of_grown (gb_set (gb_refl W (some y)) o u) (fun b e => by injection e with e; exact Or.inl e.symm))
theorem RefW.store {l : List FOp} {s' : MSt} {F : Nat → Prop} {y : Nat} {r' : RSl} {W : World} {cur : Array Value} (hb : W.heap[y]? = some (.cells cur 44)) (hl : ∀ b, F b → b < W.heap.size) (hy : ¬ F y) (hr : RefR l s' F y r' W) (o : Nat) (u : Value) (hc : cur.setIfInBounds o u = r'.cells s') : RefW l s' F y r' (W.setCell ⟨y, o, none⟩ u) :=
  ⟨by rw [box_set hb, hc], fun b e => Nat.lt_of_lt_of_le (hl b e) (gb_set (gb_refl W (some y)) o u).size, hy, hr.sety o u⟩
/-- the call leaves the reference's machine so -/
def RetR (f : Nat) (l : List FOp) (s : MSt) (F : Nat → Prop) (y : Nat) (w : World) (e : Ending) (w' : World) : Prop := e = .returned (.int .i64 (f : Int)) ∧ (∃ r', RefW l s F y r' w') ∧ KeepM (fun b => b = y) w w'
theorem ref_tail {l : List FOp} {s1 : MSt} {F : Nat → Prop} {y : Nat} {r1 : RSl} {w w3 : World} (h : RefW l s1 F y r1 w3) (hk : KeepM (fun b => b = y) w w3) : (∃ r', RefW l { s1 with at_ := s1.at_ + 1 } F y r' (w3.setCell ⟨y, 1, none⟩ (.int .i64 ((s1.at_ : Int) + 1)))) ∧ KeepM (fun b => b = y) w (w3.setCell ⟨y, 1, none⟩ (.int .i64 ((s1.at_ : Int) + 1))) :=
  ⟨⟨r1, RefW.store h.box h.flt h.fy (h.rest.same (s' := { s1 with at_ := s1.at_ + 1 }) rfl rfl rfl rfl) 1 _ rfl⟩, hk.setCell rfl _ _⟩
/-- the machine's data lie apart from the reference's block -/
theorem MachW.setY {l : List FOp} {s : MSt} {B g y : Nat} {m : MSlots} {W W' : World} (h : MachW l s B g m W) (hg : W.grownBy W' (some y)) (hy : m.Y y) : MachW l s B g m W' := by
  obtain ⟨y1, y2, y3, y4⟩ := h.rest.yown y hy
  have hz : ∀ b, some y = some b → m.Z g b := fun b e => by injection e with e; subst e; exact Or.inr (Or.inr (Or.inr hy))
  have hgl := (Array.getElem?_eq_some_iff.1 h.box).1
  have hf : ∀ v : Value, v.ownBlock ≠ some y → v.ownBlock = none ∨ v.ownBlock ≠ some y := fun v h => Or.inr h
  refine ⟨(hg.block g hgl (fun e => by injection e with e; exact y1 e.symm)).trans h.box, h.low, ?_⟩
  have h := h.rest
  exact ⟨h.ops.grown hg hz, h.opsd, h.opsn, h.ends.kept hg (fun e => by injection e with e; exact y4 e.symm), h.endsn, h.endsb, h.turns.kept hg (Or.inr y2), h.turnsn, h.objs.grown hg hz, h.objsd, h.saved.grown hg hz, h.savedd, h.frames.kept hg (Or.inr y3), h.framesn, h.framesd, h.pics.grown hg hz, fun b e => Nat.lt_of_lt_of_le (h.ylt b e) hg.size, h.yown⟩
/-- a block that came later -/
theorem MachW.withY {l : List FOp} {s : MSt} {B g y : Nat} {m : MSlots} {W W' : World} (h : MachW l s B g m W) (hb : Below W.heap.size W W') (hy : W.heap.size ≤ y) (hy2 : y < W'.heap.size) : MachW l s B g { m with Y := fun b => b = y } W' := by
  have hgl := (Array.getElem?_eq_some_iff.1 h.box).1
  have hz : ∀ b, MSlots.Z { m with Y := fun b => b = y } g b → m.Z g b ∨ W.heap.size ≤ b := by
    rintro b (e | e | e | e)
    · exact Or.inl (Or.inl e)
    · exact Or.inl (Or.inr (Or.inl e))
    · exact Or.inl (Or.inr (Or.inr (Or.inl e)))
    · have e : b = y := e
      exact Or.inr (by omega)
  have hlow := h.low
  have hbx := h.box
  have h := h.rest
  have hm : m.mb < W.heap.size := h.ends.lt
  exact ⟨blk_keep hbx hb, hlow, (h.ops.more hz).below hb, h.opsd, h.opsn, ownsMap_keep h.ends hb, h.endsn, h.endsb, own_keep h.turns hb, h.turnsn, (h.objs.more hz).below hb, h.objsd, (h.saved.more hz).below hb, h.savedd, own_keep h.frames hb, h.framesn, h.framesd, (h.pics.more hz).below hb,
    fun b e => by have e : b = y := e; omega, fun b e => by
      have e : b = y := e
      subst e
      exact ⟨by omega, fun e2 => by have := (h.turns.lt _ e2).2; omega, fun e2 => by have := (h.frames.lt _ e2).2; omega, fun e2 => by have e3 : b = m.mb := e2; omega⟩⟩
end Fb

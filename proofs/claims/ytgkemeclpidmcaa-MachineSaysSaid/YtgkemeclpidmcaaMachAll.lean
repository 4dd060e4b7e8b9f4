/- What lies in memory apart from the blocks that a machine writes. Conditions: those of each lemma. One step of the machine: what each of its parts does. Conditions: the machine lies in memory as it may be. machine.loop: a loop begins, or is passed over. Conditions: the machine lies in memory as it may be; the op is a loop. machine.wait: a frame is made of what is seen. Conditions: the machine lies in memory as it may be; the op is a wait. The machine's small methods, and the clones of ops and of frames. Conditions: those of each lemma. Printed by mkmachparts.py. machine.Step: one op is done. Conditions: the machine lies in memory as it may be. Printed by mkmachdo.py. machine.Play: it returns what the plain law says. Conditions: few pixels an op. works, may: the closed fact that a frame is told; may a book be. Conditions: those of each lemma. -/
import Derived.Test.YtgkemeclpidmcaaPlainB
import Derived.Deep.DrawnRows
import Derived.Lib.SmallJoins
import Derived.BigRegion
import Derived.Test.YtgkemeclpidmcaaObjsA
import Derived.Test.YtgkemeclpidmcaaWalksA
import Derived.Test.YtgkemeclpidmcaaPlainC
import Derived.Test.YtgkemeclpidmcaaBookClose
import Derived.Test.YtgkemeclpidmcaaSeenBoth
import Derived.Test.YtgkemeclpidmcaaObjsB
import Derived.WalkSmall
import Derived.Deep.RegionLaw
import Derived.Deep.RegionHeld3
import Derived.Deep.AppendLies
import Derived.Test.YtgkemeclpidmcaaBookCheck
import Derived.Test.YtgkemeclpidmcaaPlainA
set_option linter.unusedSimpArgs false
set_option linter.unusedVariables false
namespace Fb
open Go Go.Proofs Go.RowKit Go.Sort
/-- a slice that lies apart from the blocks of Z -/
def FarR (Z : Nat → Prop) (A : Option Addr) (n : Nat) : Prop := 0 < n → ∀ a, A = some a → ¬ Z a.block
theorem row_block {w : World} {A : Option Addr} {n size : Nat} {cs : List Value} (h : Row w A n size cs) (hn : 0 < n) {a : Addr} (ha : A = some a) : a.block < w.heap.size := by
  obtain ⟨b, off, e, hb, -⟩ := h.2 hn
  rw [e] at ha
  injection ha with ha
  subst ha
  exact hb
theorem FarR.row {Z : Nat → Prop} {w w' : World} {A : Option Addr} {n size : Nat} {cs : List Value} {row : Option Nat} (hf : FarR Z A n) (h : Row w A n size cs) (hg : w.grownBy w' row) (hz : ∀ b, row = some b → Z b) : Row w' A n size cs :=
  h.grown hg (fun hn a ha e => hf hn a ha (hz _ e))
theorem FarR.more {Z Z' : Nat → Prop} {w : World} {A : Option Addr} {n size : Nat} {cs : List Value} (hf : FarR Z A n) (h : Row w A n size cs) (hz : ∀ b, Z' b → Z b ∨ w.heap.size ≤ b) : FarR Z' A n := by
  intro hn a ha hb
  rcases hz _ hb with hb | hb
  · exact hf hn a ha hb
  · have := row_block h hn ha; omega
/-- new memory is apart from what was there -/
theorem FarR.new {Z : Nat → Prop} {A : Option Addr} {n H : Nat} (h : ∀ a, A = some a → H ≤ a.block) (hz : ∀ b, Z b → b < H) : FarR Z A n := fun _ a ha hb => by have h1 := h a ha; have h2 := hz _ hb; omega
structure FOps (Z : Nat → Prop) (w : World) (A : Option Addr) (n : Nat) (rs : List (FAt FOp)) : Prop where
  ops : Ops w A n rs
  far : FarR Z A n
  pics : ∀ r ∈ rs, FarR Z r.A r.n
structure FObjs (Z : Nat → Prop) (w : World) (A : Option Addr) (n : Nat) (rs : List (FAt FObj)) : Prop where
  objs : Objs w A n rs
  far : FarR Z A n
  pics : ∀ r ∈ rs, FarR Z r.A r.n
structure FFrs (Z : Nat → Prop) (w : World) (rs : List (FAt FFrame)) : Prop where
  pixs : ∀ r ∈ rs, Pixs w r.A r.n r.x.pic.p
  pics : ∀ r ∈ rs, FarR Z r.A r.n
theorem FarR.pixs {Z : Nat → Prop} {w w' : World} {A : Option Addr} {n : Nat} {l : List Px} {row : Option Nat} (hf : FarR Z A n) (h : Pixs w A n l) (hg : w.grownBy w' row) (hz : ∀ b, row = some b → Z b) : Pixs w' A n l := ⟨h.1, hf.row h.2 hg hz⟩
theorem FOps.grown {Z : Nat → Prop} {w w' : World} {A : Option Addr} {n : Nat} {rs : List (FAt FOp)} {row : Option Nat} (h : FOps Z w A n rs) (hg : w.grownBy w' row) (hz : ∀ b, row = some b → Z b) : FOps Z w' A n rs :=
  ⟨⟨h.ops.1, h.far.row h.ops.2.1 hg hz, fun r hr => (h.pics r hr).pixs (h.ops.2.2 r hr) hg hz⟩, h.far, h.pics⟩
theorem FObjs.grown {Z : Nat → Prop} {w w' : World} {A : Option Addr} {n : Nat} {rs : List (FAt FObj)} {row : Option Nat} (h : FObjs Z w A n rs) (hg : w.grownBy w' row) (hz : ∀ b, row = some b → Z b) : FObjs Z w' A n rs :=
  ⟨⟨h.objs.1, h.far.row h.objs.2.1 hg hz, fun r hr => (h.pics r hr).pixs (h.objs.2.2 r hr) hg hz⟩, h.far, h.pics⟩
theorem FFrs.grown {Z : Nat → Prop} {w w' : World} {rs : List (FAt FFrame)} {row : Option Nat} (h : FFrs Z w rs) (hg : w.grownBy w' row) (hz : ∀ b, row = some b → Z b) : FFrs Z w' rs :=
  ⟨fun r hr => (h.pics r hr).pixs (h.pixs r hr) hg hz, h.pics⟩
theorem FOps.more {Z Z' : Nat → Prop} {w : World} {A : Option Addr} {n : Nat} {rs : List (FAt FOp)} (h : FOps Z w A n rs) (hz : ∀ b, Z' b → Z b ∨ w.heap.size ≤ b) : FOps Z' w A n rs :=
  ⟨h.ops, h.far.more h.ops.2.1 hz, fun r hr => (h.pics r hr).more (h.ops.2.2 r hr).2 hz⟩
theorem FObjs.more {Z Z' : Nat → Prop} {w : World} {A : Option Addr} {n : Nat} {rs : List (FAt FObj)} (h : FObjs Z w A n rs) (hz : ∀ b, Z' b → Z b ∨ w.heap.size ≤ b) : FObjs Z' w A n rs :=
  ⟨h.objs, h.far.more h.objs.2.1 hz, fun r hr => (h.pics r hr).more (h.objs.2.2 r hr).2 hz⟩
theorem FFrs.more {Z Z' : Nat → Prop} {w : World} {rs : List (FAt FFrame)} (h : FFrs Z w rs) (hz : ∀ b, Z' b → Z b ∨ w.heap.size ≤ b) : FFrs Z' w rs :=
  ⟨h.pixs, fun r hr => (h.pics r hr).more (h.pixs r hr).2 hz⟩
theorem FOps.below {Z : Nat → Prop} {w w' : World} {A : Option Addr} {n : Nat} {rs : List (FAt FOp)} (h : FOps Z w A n rs) (hb : Below w.heap.size w w') : FOps Z w' A n rs := ⟨h.ops.below hb, h.far, h.pics⟩
theorem FObjs.below {Z : Nat → Prop} {w w' : World} {A : Option Addr} {n : Nat} {rs : List (FAt FObj)} (h : FObjs Z w A n rs) (hb : Below w.heap.size w w') : FObjs Z w' A n rs := ⟨h.objs.below hb, h.far, h.pics⟩
theorem FFrs.below {Z : Nat → Prop} {w w' : World} {rs : List (FAt FFrame)} (h : FFrs Z w rs) (hb : Below w.heap.size w w') : FFrs Z w' rs := ⟨fun r hr => (h.pixs r hr).below hb, h.pics⟩
theorem FarR.sub {Z Z' : Nat → Prop} {A : Option Addr} {n : Nat} (h : FarR Z A n) (hz : ∀ b, Z' b → Z b) : FarR Z' A n := fun hn a ha hb => h hn a ha (hz _ hb)
theorem FOps.sub {Z Z' : Nat → Prop} {w : World} {A : Option Addr} {n : Nat} {rs : List (FAt FOp)} (h : FOps Z w A n rs) (hz : ∀ b, Z' b → Z b) : FOps Z' w A n rs := ⟨h.ops, h.far.sub hz, fun r hr => (h.pics r hr).sub hz⟩
theorem FObjs.sub {Z Z' : Nat → Prop} {w : World} {A : Option Addr} {n : Nat} {rs : List (FAt FObj)} (h : FObjs Z w A n rs) (hz : ∀ b, Z' b → Z b) : FObjs Z' w A n rs := ⟨h.objs, h.far.sub hz, fun r hr => (h.pics r hr).sub hz⟩
theorem FFrs.sub {Z Z' : Nat → Prop} {w : World} {rs : List (FAt FFrame)} (h : FFrs Z w rs) (hz : ∀ b, Z' b → Z b) : FFrs Z' w rs := ⟨h.pixs, fun r hr => (h.pics r hr).sub hz⟩
/-- a write into a block of Z, behind which other blocks, that are new, are written -/
theorem FOps.turned {Z Z' : Nat → Prop} {w w' : World} {A : Option Addr} {n : Nat} {rs : List (FAt FOp)} {row : Option Nat} (h : FOps Z w A n rs) (hg : w.grownBy w' row) (hr : ∀ b, row = some b → Z b) (hz : ∀ b, Z' b → Z b ∨ w.heap.size ≤ b) : FOps Z' w' A n rs :=
  ((h.more (Z' := fun b => Z b ∨ w.heap.size ≤ b) (fun _ hb => hb)).grown hg (fun b e => Or.inl (hr b e))).sub hz
theorem FObjs.turned {Z Z' : Nat → Prop} {w w' : World} {A : Option Addr} {n : Nat} {rs : List (FAt FObj)} {row : Option Nat} (h : FObjs Z w A n rs) (hg : w.grownBy w' row) (hr : ∀ b, row = some b → Z b) (hz : ∀ b, Z' b → Z b ∨ w.heap.size ≤ b) : FObjs Z' w' A n rs :=
  ((h.more (Z' := fun b => Z b ∨ w.heap.size ≤ b) (fun _ hb => hb)).grown hg (fun b e => Or.inl (hr b e))).sub hz
theorem FFrs.turned {Z Z' : Nat → Prop} {w w' : World} {rs : List (FAt FFrame)} {row : Option Nat} (h : FFrs Z w rs) (hg : w.grownBy w' row) (hr : ∀ b, row = some b → Z b) (hz : ∀ b, Z' b → Z b ∨ w.heap.size ≤ b) : FFrs Z' w' rs :=
  ((h.more (Z' := fun b => Z b ∨ w.heap.size ≤ b) (fun _ hb => hb)).grown hg (fun b e => Or.inl (hr b e))).sub hz
/-! ## the machine in memory -/
def turnC (t : Nat × Nat) : List Value := [.int .i64 (t.1 : Int), .int .i64 (t.2 : Int)]
/-- what the machine's fields hold, and what they read as -/
structure MSlots where
  lA : Option Addr
  ln : Nat
  lc : Nat
  ols : List (FAt FOp)
  mb : Nat
  mn : Nat
  tA : Option Addr
  tn : Nat
  tc : Nat
  oA : Option Addr
  on : Nat
  oc : Nat
  os : List (FAt FObj)
  sA : Option Addr
  sn : Nat
  sc : Nat
  ss : List (FAt FObj)
  fA : Option Addr
  fn : Nat
  fc : Nat
  frs : List (FAt FFrame)
  Y : Nat → Prop
def MSlots.cells (m : MSlots) (s : MSt) : Array Value := #[.slice m.lA m.ln m.lc, .map (some m.mb), .int .i64 (s.at_ : Int), .slice m.tA m.tn m.tc, .slice m.oA m.on m.oc, .slice m.sA m.sn m.sc, .int .i64 s.back.1, .int .i64 s.back.2, .slice m.fA m.fn m.fc]
/-- the blocks that the machine writes -/
def MSlots.O (m : MSlots) (g b : Nat) : Prop := b = g ∨ (Value.slice m.tA m.tn m.tc).ownBlock = some b ∨ (Value.slice m.fA m.fn m.fc).ownBlock = some b
/-- the blocks that the machine's data lie apart from: those that it writes, and others -/
def MSlots.Z (m : MSlots) (g b : Nat) : Prop := b = g ∨ (Value.slice m.tA m.tn m.tc).ownBlock = some b ∨ (Value.slice m.fA m.fn m.fc).ownBlock = some b ∨ m.Y b
theorem MSlots.O_Z {m : MSlots} {g b : Nat} (h : m.O g b) : m.Z g b := by
  rcases h with e | e | e
  · exact Or.inl e
  · exact Or.inr (Or.inl e)
  · exact Or.inr (Or.inr (Or.inl e))
def frD (frs : List (FAt FFrame)) : List FFrame := frs.map (·.x)
/-- all but the fields' block -/
structure MRest (l : List FOp) (s : MSt) (B g : Nat) (m : MSlots) (W : World) : Prop where
  ops : FOps (m.Z g) W m.lA m.ln m.ols
  opsd : datO m.ols = l
  opsn : ∀ r ∈ m.ols, r.n ≤ 100
  ends : W.ownsMap Try.prog 3 (plainElem (H := Unit) Try.prog 3) m.mb m.mn (closeD l l.length)
  endsn : m.mn ≤ 1000
  endsb : B ≤ m.mb
  turns : W.ownsRow B 104 2 (.slice m.tA m.tn m.tc) m.tn (s.turns.flatMap turnC)
  turnsn : s.turns.length = m.tn
  objs : FObjs (m.Z g) W m.oA m.on m.os
  objsd : dat m.os = s.objs
  saved : FObjs (m.Z g) W m.sA m.sn m.ss
  savedd : dat m.ss = s.saved
  frames : W.ownsRow B 60 4 (.slice m.fA m.fn m.fc) m.fn (m.frs.flatMap frCells)
  framesn : m.frs.length = m.fn
  framesd : frD m.frs = s.frames
  pics : FFrs (m.Z g) W m.frs
  ylt : ∀ b, m.Y b → b < W.heap.size
  yown : ∀ b, m.Y b → b ≠ g ∧ (Value.slice m.tA m.tn m.tc).ownBlock ≠ some b ∧ (Value.slice m.fA m.fn m.fc).ownBlock ≠ some b ∧ b ≠ m.mb
/-- the machine lies in memory -/
structure MachW (l : List FOp) (s : MSt) (B g : Nat) (m : MSlots) (W : World) : Prop where
  box : W.heap[g]? = some (.cells (m.cells s) 75)
  low : B ≤ g
  rest : MRest l s B g m W
/-- a block of another type is not the slice's own -/
theorem own_not {w : World} {base e size n : Nat} {v : Value} {xs : List Value} {g : Nat} {cur : Array Value} {T : TypeId} {fz : Nat × Nat} (h : w.ownsRow base e size v n xs) (hg : w.heap[g]? = some (.cells cur T fz)) (hT : T ≠ e) : v.ownBlock ≠ some g := by
  rcases h.2 with ⟨hv, h0⟩ | ⟨g', cap, cur', hv, hg', hh, r⟩
  · subst hv; simp [Value.ownBlock]
  · subst hv
    intro e2
    simp [Value.ownBlock] at e2
    subst e2
    rw [hg] at hh
    injection hh with hh
    injection hh with _ hh _
    exact hT hh
/-- a row's own block, typed -/
theorem own_block {w : World} {base e size n : Nat} {v : Value} {xs : List Value} (h : w.ownsRow base e size v n xs) {b : Nat} (hb : v.ownBlock = some b) : ∃ cur, w.heap[b]? = some (.cells cur e (0, 0)) := by
  rcases h.2 with ⟨hv, h0⟩ | ⟨g', cap, cur', hv, hg', hh, r⟩
  · subst hv; simp [Value.ownBlock] at hb
  · subst hv
    simp [Value.ownBlock] at hb
    subst hb
    exact ⟨cur', hh⟩
theorem map_not {w : World} {P : Program} {k : TypeId} {R : Value → Option (DataW Unit × List MemPlace)} {b n : Nat} {D : DataW Unit} {g : Nat} {cur : Array Value} {T : TypeId} {fz : Nat × Nat} (h : w.ownsMap P k R b n D) (hg : w.heap[g]? = some (.cells cur T fz)) : b ≠ g := by
  obtain ⟨es, clock, hb, -⟩ := h
  intro e
  subst e
  rw [hg] at hb
  cases hb
theorem ownsMap_keep {w w' : World} {P : Program} {k : TypeId} {R : Value → Option (DataW Unit × List MemPlace)} {b n : Nat} {D : DataW Unit} (h : w.ownsMap P k R b n D) (hb : Below w.heap.size w w') : w'.ownsMap P k R b n D := by
  have hlt := h.lt
  obtain ⟨es, clock, hh, F, hs, hD⟩ := h
  exact ⟨es, clock, by rw [hb.block b hlt]; exact hh, F, hs, hD⟩
theorem MRest.below {l : List FOp} {s : MSt} {B g : Nat} {m : MSlots} {W W' : World} (h : MRest l s B g m W) (hb : Below W.heap.size W W') : MRest l s B g m W' :=
  ⟨h.ops.below hb, h.opsd, h.opsn, ownsMap_keep h.ends hb, h.endsn, h.endsb, own_keep h.turns hb, h.turnsn, h.objs.below hb, h.objsd, h.saved.below hb, h.savedd, own_keep h.frames hb, h.framesn, h.framesd, h.pics.below hb, fun b hb2 => Nat.lt_of_lt_of_le (h.ylt b hb2) hb.size, h.yown⟩
theorem MachW.below {l : List FOp} {s : MSt} {B g : Nat} {m : MSlots} {W W' : World} (h : MachW l s B g m W) (hb : Below W.heap.size W W') : MachW l s B g m W' := ⟨blk_keep h.box hb, h.low, h.rest.below hb⟩
theorem MSlots.Zg (m : MSlots) (g : Nat) : m.Z g g := Or.inl rfl
/-- a write into the fields' block changes nothing else -/
theorem MRest.setg {l : List FOp} {s : MSt} {B g : Nat} {m : MSlots} {W : World} {cur : Array Value} (h : MRest l s B g m W) (hb : W.heap[g]? = some (.cells cur 75)) (o : Nat) (u : Value) : MRest l s B g m (W.setCell ⟨g, o, none⟩ u) := by
  have hg := gb_set (gb_refl W (some g)) o u
  have hz : ∀ b, some g = some b → m.Z g b := fun b e => by injection e with e; subst e; exact m.Zg g
  exact ⟨h.ops.grown hg hz, h.opsd, h.opsn, h.ends.kept hg (by intro e; injection e with e; exact map_not h.ends hb e), h.endsn, h.endsb, h.turns.kept hg (Or.inr (own_not h.turns hb (by decide))), h.turnsn, h.objs.grown hg hz, h.objsd, h.saved.grown hg hz, h.savedd, h.frames.kept hg (Or.inr (own_not h.frames hb (by decide))), h.framesn, h.framesd, h.pics.grown hg hz, fun b hb2 => Nat.lt_of_lt_of_le (h.ylt b hb2) hg.size, h.yown⟩
theorem box_set {W : World} {g o : Nat} {cur : Array Value} {T : TypeId} {u : Value} (h : W.heap[g]? = some (.cells cur T)) : (W.setCell ⟨g, o, none⟩ u).heap[g]? = some (.cells (cur.setIfInBounds o u) T) := Go.Joins.block_setCell h u
/-- only the fields that the state names decide -/
theorem MRest.same {l : List FOp} {s s' : MSt} {B g : Nat} {m : MSlots} {W : World} (h : MRest l s B g m W) (h1 : s'.turns = s.turns) (h2 : s'.objs = s.objs) (h3 : s'.saved = s.saved) (h4 : s'.frames = s.frames) : MRest l s' B g m W :=
  ⟨h.ops, h.opsd, h.opsn, h.ends, h.endsn, h.endsb, by rw [h1]; exact h.turns, by rw [h1]; exact h.turnsn, h.objs, by rw [h2]; exact h.objsd, h.saved, by rw [h3]; exact h.savedd, h.frames, h.framesn, by rw [h4]; exact h.framesd, h.pics, h.ylt, h.yown⟩
/-- other objects -/
theorem MRest.objsTo {l : List FOp} {s s' : MSt} {B g : Nat} {m : MSlots} {W : World} (h : MRest l s B g m W) {A : Option Addr} {n c : Nat} {rs : List (FAt FObj)} (ho : FObjs (m.Z g) W A n rs) (hd : dat rs = s'.objs) (h1 : s'.turns = s.turns) (h3 : s'.saved = s.saved) (h4 : s'.frames = s.frames) :
    MRest l s' B g { m with oA := A, on := n, oc := c, os := rs } W :=
  ⟨h.ops, h.opsd, h.opsn, h.ends, h.endsn, h.endsb, by rw [h1]; exact h.turns, by rw [h1]; exact h.turnsn, ho, hd, h.saved, by rw [h3]; exact h.savedd, h.frames, h.framesn, by rw [h4]; exact h.framesd, h.pics, h.ylt, h.yown⟩
theorem MRest.savedTo {l : List FOp} {s s' : MSt} {B g : Nat} {m : MSlots} {W : World} (h : MRest l s B g m W) {A : Option Addr} {n c : Nat} {rs : List (FAt FObj)} (ho : FObjs (m.Z g) W A n rs) (hd : dat rs = s'.saved) (h1 : s'.turns = s.turns) (h2 : s'.objs = s.objs) (h4 : s'.frames = s.frames) :
    MRest l s' B g { m with sA := A, sn := n, sc := c, ss := rs } W :=
  ⟨h.ops, h.opsd, h.opsn, h.ends, h.endsn, h.endsb, by rw [h1]; exact h.turns, by rw [h1]; exact h.turnsn, h.objs, by rw [h2]; exact h.objsd, ho, hd, h.frames, h.framesn, by rw [h4]; exact h.framesd, h.pics, h.ylt, h.yown⟩
/-- the turns' slice is another one -/
theorem MRest.turnsTo {l : List FOp} {s s' : MSt} {B g : Nat} {m : MSlots} {W W' : World} (h : MRest l s B g m W) {A : Option Addr} {n c : Nat} (hg : W.grownBy W' (Value.slice m.tA m.tn m.tc).ownBlock)
    (ht : W'.ownsRow B 104 2 (.slice A n c) n (s'.turns.flatMap turnC)) (hn : s'.turns.length = n) (hv : ∀ b, (Value.slice A n c).ownBlock = some b → (Value.slice m.tA m.tn m.tc).ownBlock = some b ∨ W.heap.size ≤ b)
    (h2 : s'.objs = s.objs) (h3 : s'.saved = s.saved) (h4 : s'.frames = s.frames) : MRest l s' B g { m with tA := A, tn := n, tc := c } W' := by
  have hr : ∀ b, (Value.slice m.tA m.tn m.tc).ownBlock = some b → m.Z g b := fun b e => Or.inr (Or.inl e)
  have hz : ∀ b, MSlots.Z { m with tA := A, tn := n, tc := c } g b → m.Z g b ∨ W.heap.size ≤ b := by
    rintro b (e | e | e)
    · exact Or.inl (Or.inl e)
    · rcases hv b e with e | e
      · exact Or.inl (Or.inr (Or.inl e))
      · exact Or.inr e
    · exact Or.inl (Or.inr (Or.inr e))
  have hm : some m.mb ≠ (Value.slice m.tA m.tn m.tc).ownBlock := by
    intro e
    obtain ⟨cur, hc⟩ := own_block h.turns e.symm
    exact map_not h.ends hc rfl
  have hf : (Value.slice m.fA m.fn m.fc).ownBlock = none ∨ (Value.slice m.fA m.fn m.fc).ownBlock ≠ (Value.slice m.tA m.tn m.tc).ownBlock := by
    cases hb : (Value.slice m.tA m.tn m.tc).ownBlock with
    | none =>
      cases hb2 : (Value.slice m.fA m.fn m.fc).ownBlock with
      | none => exact Or.inl rfl
      | some b => exact Or.inr (by simp)
    | some b =>
      obtain ⟨cur, hc⟩ := own_block h.turns hb
      exact Or.inr (own_not h.frames hc (by decide))
  exact ⟨h.ops.turned hg hr hz, h.opsd, h.opsn, h.ends.kept hg hm, h.endsn, h.endsb, ht, hn, h.objs.turned hg hr hz, by rw [h2]; exact h.objsd, h.saved.turned hg hr hz, by rw [h3]; exact h.savedd, h.frames.kept hg hf, h.framesn, by rw [h4]; exact h.framesd, h.pics.turned hg hr hz, fun b hb => Nat.lt_of_lt_of_le (h.ylt b hb) hg.size, fun b hb => ⟨(h.yown b hb).1, fun e => (by
    rcases hv b e with e | e
    · exact (h.yown b hb).2.1 e
    · have := h.ylt b hb; omega), (h.yown b hb).2.2⟩⟩
/-- the frames' slice is another one -/
theorem MRest.framesTo {l : List FOp} {s s' : MSt} {B g : Nat} {m : MSlots} {W W' : World} (h : MRest l s B g m W) {A : Option Addr} {n c : Nat} {frs : List (FAt FFrame)} (hg : W.grownBy W' (Value.slice m.fA m.fn m.fc).ownBlock)
    (ht : W'.ownsRow B 60 4 (.slice A n c) n (frs.flatMap frCells)) (hn : frs.length = n) (hv : ∀ b, (Value.slice A n c).ownBlock = some b → (Value.slice m.fA m.fn m.fc).ownBlock = some b ∨ W.heap.size ≤ b)
    (hp : FFrs (m.Z g) W frs) (hd : frD frs = s'.frames) (h1 : s'.turns = s.turns) (h2 : s'.objs = s.objs) (h3 : s'.saved = s.saved) : MRest l s' B g { m with fA := A, fn := n, fc := c, frs := frs } W' := by
  have hr : ∀ b, (Value.slice m.fA m.fn m.fc).ownBlock = some b → m.Z g b := fun b e => Or.inr (Or.inr (Or.inl e))
  have hz : ∀ b, MSlots.Z { m with fA := A, fn := n, fc := c, frs := frs } g b → m.Z g b ∨ W.heap.size ≤ b := by
    rintro b (e | e | e | e)
    · exact Or.inl (Or.inl e)
    · exact Or.inl (Or.inr (Or.inl e))
    · rcases hv b e with e | e
      · exact Or.inl (Or.inr (Or.inr (Or.inl e)))
      · exact Or.inr e
    · exact Or.inl (Or.inr (Or.inr (Or.inr e)))
  have hm : some m.mb ≠ (Value.slice m.fA m.fn m.fc).ownBlock := by
    intro e
    obtain ⟨cur, hc⟩ := own_block h.frames e.symm
    exact map_not h.ends hc rfl
  have hf : (Value.slice m.tA m.tn m.tc).ownBlock = none ∨ (Value.slice m.tA m.tn m.tc).ownBlock ≠ (Value.slice m.fA m.fn m.fc).ownBlock := by
    cases hb : (Value.slice m.fA m.fn m.fc).ownBlock with
    | none =>
      cases hb2 : (Value.slice m.tA m.tn m.tc).ownBlock with
      | none => exact Or.inl rfl
      | some b => exact Or.inr (by simp)
    | some b =>
      obtain ⟨cur, hc⟩ := own_block h.frames hb
      exact Or.inr (own_not h.turns hc (by decide))
  exact ⟨h.ops.turned hg hr hz, h.opsd, h.opsn, h.ends.kept hg hm, h.endsn, h.endsb, by rw [h1]; exact h.turns.kept hg hf, by rw [h1]; exact h.turnsn, h.objs.turned hg hr hz, by rw [h2]; exact h.objsd, h.saved.turned hg hr hz, by rw [h3]; exact h.savedd, ht, hn, hd, hp.turned hg hr hz, fun b hb => Nat.lt_of_lt_of_le (h.ylt b hb) hg.size, fun b hb => ⟨(h.yown b hb).1, (h.yown b hb).2.1, fun e => (by
    rcases hv b e with e | e
    · exact (h.yown b hb).2.2.1 e
    · have := h.ylt b hb; omega), (h.yown b hb).2.2.2⟩⟩
end Fb
namespace Fb
open Go Go.Proofs Go.RowKit Go.Sort
attribute [local go_sem ↓] Go.wp_at_zero Go.wp_at_succ
/-- what lies apart from the blocks of Z stays -/
structure KeepM (Z : Nat → Prop) (w w' : World) : Prop where
  os : w'.os = w.os
  tape : w'.tape = w.tape
  output : w'.output = w.output
  size : w.heap.size ≤ w'.heap.size
  block : ∀ k, k < w.heap.size → ¬ Z k → w'.heap[k]? = w.heap[k]?
theorem KeepM.of_below {Z : Nat → Prop} {w w' : World} (h : Below w.heap.size w w') : KeepM Z w w' := ⟨h.os, h.tape, h.output, h.size, fun k hk _ => h.block k hk⟩
theorem KeepM.of_grown {Z : Nat → Prop} {w w' : World} {row : Option Nat} (h : w.grownBy w' row) (hr : ∀ b, row = some b → Z b) : KeepM Z w w' := ⟨h.os, h.tape, h.output, h.size, fun k hk hz => h.block k hk (fun e => hz (hr k e.symm))⟩
theorem KeepM.trans {Z Z' : Nat → Prop} {w w1 w2 : World} (h : KeepM Z w w1) (h2 : KeepM Z' w1 w2) (hz : ∀ b, Z' b → Z b ∨ w.heap.size ≤ b) : KeepM Z w w2 :=
  ⟨h2.os.trans h.os, h2.tape.trans h.tape, h2.output.trans h.output, Nat.le_trans h.size h2.size, fun k hk hn => (h2.block k (Nat.lt_of_lt_of_le hk h.size) (fun e => by
    rcases hz k e with e | e
    · exact hn e
    · omega)).trans (h.block k hk hn)⟩
theorem KeepM.setCell {Z : Nat → Prop} {w w' : World} {g : Nat} (h : KeepM Z w w') (hg : Z g) (o : Nat) (u : Value) : KeepM Z w (w'.setCell ⟨g, o, none⟩ u) :=
  h.trans (KeepM.of_grown (gb_set (gb_refl w' (some g)) o u) (fun b e => by injection e with e; subst e; exact hg)) (fun b hb => Or.inl hb)
theorem KeepM.drew {Z : Nat → Prop} {w w' : World} (h : KeepM Z w w') : KeepM Z w w'.drew := h.trans (Z' := Z) (KeepM.of_below (Below.refl _ _).drew) (fun _ hb => Or.inl hb)
/-- the machine goes on: it writes its own blocks and new ones alone -/
def MvM (m : MSlots) (g : Nat) (w : World) (m' : MSlots) (w' : World) : Prop := KeepM (m.O g) w w' ∧ (∀ b, m'.O g b → m.O g b ∨ w.heap.size ≤ b) ∧ m'.Y = m.Y
theorem MSlots.Og (m : MSlots) (g : Nat) : m.O g g := Or.inl rfl
theorem MvM.same {m m' : MSlots} {g : Nat} {w w' : World} (h : KeepM (m.O g) w w') (e : m'.O g = m.O g) (ey : m'.Y = m.Y) : MvM m g w m' w' := ⟨h, fun b hb => Or.inl (by rw [← e]; exact hb), ey⟩
theorem MvM.set {m m' : MSlots} {g : Nat} {w w' : World} (h : MvM m g w m' w') (o : Nat) (u : Value) : MvM m g w m' (w'.setCell ⟨g, o, none⟩ u) := ⟨h.1.setCell (m.Og g) o u, h.2⟩
theorem MvM.drew {m m' : MSlots} {g : Nat} {w w' : World} (h : MvM m g w m' w') : MvM m g w m' w'.drew := ⟨h.1.drew, h.2⟩
theorem MvM.after {m m' : MSlots} {g : Nat} {w w1 w' : World} (hb : Below w.heap.size w w1) (h : MvM m g w1 m' w') : MvM m g w m' w' :=
  ⟨(KeepM.of_below hb).trans h.1 (fun b hb => Or.inl hb), fun b h2 => by
    rcases h.2.1 b h2 with e | e
    · exact Or.inl e
    · have := hb.size; exact Or.inr (by omega), h.2.2⟩
theorem MvM.trans {m m1 m2 : MSlots} {g : Nat} {w w1 w2 : World} (h : MvM m g w m1 w1) (h2 : MvM m1 g w1 m2 w2) : MvM m g w m2 w2 :=
  ⟨h.1.trans h2.1 h.2.1, fun b hb => by
    rcases h2.2.1 b hb with e | e
    · exact h.2.1 b e
    · have := h.1.size; exact Or.inr (by omega), h2.2.2.trans h.2.2⟩
/-- the call leaves the machine so -/
def RetM (v : Value) (l : List FOp) (s : MSt) (B g : Nat) (m : MSlots) (w : World) (e : Ending) (w' : World) : Prop := e = .returned v ∧ (∃ m', MachW l s B g m' w' ∧ MvM m g w m' w') ∧ Below B w w'
theorem MachW.cell {l : List FOp} {s : MSt} {B g : Nat} {m : MSlots} {W : World} (h : MachW l s B g m W) :
    W.cell? ⟨g, 0, none⟩ = some (.slice m.lA m.ln m.lc) ∧ W.cell? ⟨g, 1, none⟩ = some (.map (some m.mb)) ∧ W.cell? ⟨g, 2, none⟩ = some (.int .i64 (s.at_ : Int)) ∧ W.cell? ⟨g, 3, none⟩ = some (.slice m.tA m.tn m.tc) ∧ W.cell? ⟨g, 4, none⟩ = some (.slice m.oA m.on m.oc) ∧ W.cell? ⟨g, 5, none⟩ = some (.slice m.sA m.sn m.sc) ∧
    W.cell? ⟨g, 6, none⟩ = some (.int .i64 s.back.1) ∧ W.cell? ⟨g, 7, none⟩ = some (.int .i64 s.back.2) ∧ W.cell? ⟨g, 8, none⟩ = some (.slice m.fA m.fn m.fc) :=
  ⟨opblk_cell h.box 0 _ rfl, opblk_cell h.box 1 _ rfl, opblk_cell h.box 2 _ rfl, opblk_cell h.box 3 _ rfl, opblk_cell h.box 4 _ rfl, opblk_cell h.box 5 _ rfl, opblk_cell h.box 6 _ rfl, opblk_cell h.box 7 _ rfl, opblk_cell h.box 8 _ rfl⟩
theorem MachW.store {l : List FOp} {s' : MSt} {B g : Nat} {m' : MSlots} {W : World} {cur : Array Value} (hb : W.heap[g]? = some (.cells cur 75)) (hl : B ≤ g) (hr : MRest l s' B g m' W) (o : Nat) (u : Value) (hc : cur.setIfInBounds o u = m'.cells s') : MachW l s' B g m' (W.setCell ⟨g, o, none⟩ u) :=
  ⟨by rw [box_set hb, hc], hl, hr.setg hb o u⟩
/-- a slice of one's own grows: older things stay -/
theorem below_own {a w w' : World} {B : Nat} {row : Option Nat} (h : Below B a w) (hg : w.grownBy w' row) (hB : B ≤ w.heap.size) (hb : ∀ b, row = some b → B ≤ b) : Below B a w' :=
  h.trans ⟨hg.os, hg.tape, hg.output, hg.size, fun k hk => hg.block k (by omega) (by intro e; have := hb k e.symm; omega)⟩
def nextS (s : MSt) (r : List (Nat × Nat)) (i n : Nat) : MSt := if n ≤ 1 then { s with turns := r } else { s with at_ := i, turns := r ++ [(i, n - 1)] }
/-- the row of the turns, from its end -/
theorem turn_end {w : World} {B M tc i n : Nat} {tA : Option Addr} {r : List (Nat × Nat)} (h : w.ownsRow B 104 2 (.slice tA (M + 1) tc) (M + 1) ((r ++ [(i, n)]).flatMap turnC)) (hr : r.length = M) :
    ∃ tb, tA = some ⟨tb, 0, none⟩ ∧ B ≤ tb ∧ tb < w.heap.size ∧ M + 1 ≤ tc ∧ w.cell? ⟨tb, M * 2, none⟩ = some (.int .i64 i) ∧ w.cell? ⟨tb, M * 2 + 1, none⟩ = some (.int .i64 n) ∧ (∀ o, w.frozen? ⟨tb, o, none⟩ = false) := by
  obtain ⟨tb, rfl⟩ : ∃ tb, tA = some ⟨tb, 0, none⟩ := by
    rcases h.2 with ⟨-, h0⟩ | ⟨g, cap, cur, hv, -⟩
    · omega
    · injection hv with hv
      exact ⟨g, hv⟩
  obtain ⟨cur, hc⟩ := own_block h (b := tb) rfl
  have hlt := h.lt tb rfl
  have hcap : M + 1 ≤ tc := by obtain ⟨A0, c0, e, -, hh, -⟩ := own_slice h; injection e with _ _ e; omega
  have hk : (r ++ [(i, n)])[M]? = some (i, n) := by rw [← hr]; simp
  have f := fun j hj => own_cell (cel := turnC) (size := 2) (fun _ => rfl) h (k := M) (j := j) hk hj
  exact ⟨tb, rfl, hlt.1, hlt.2, hcap, f 0 (by omega), f 1 (by omega), fun o => opblk_free hc o⟩
theorem turns_set {r : List (Nat × Nat)} {i n n' M : Nat} (h : r.length = M) : ((r ++ [(i, n)]).flatMap turnC).set (M * 2 + 1) (.int .i64 (n' : Int)) = (r ++ [(i, n')]).flatMap turnC := by
  subst h
  exact flat_set (cel := turnC) (size := 2) (fun _ => rfl) r (i, n) (i, n') 1 _ (by decide) rfl
theorem heap_other {W : World} {g h o : Nat} {v : Value} {ob : Go.Obj} (hb : W.heap[h]? = some ob) (hne : h ≠ g) : (W.setCell ⟨g, o, none⟩ v).heap[h]? = some ob := (Below.heap_setCell W ⟨g, o, none⟩ v h hne).trans hb
set_option maxRecDepth 100000 in
set_option maxHeartbeats 4000000 in
theorem mnext_any (l : List FOp) (s : MSt) (B g : Nat) (m : MSlots) (W : World) (h : MachW l s B g m W) (r : List (Nat × Nat)) (i n : Nat) (ht : s.turns = r ++ [(i, n)]) (hn : 1 ≤ n ∧ n ≤ 9) (hr9 : r.length ≤ 100) :
    Calls Try.prog 44 #[.pointer (some ⟨g, 0, none⟩)] W (RetM (.tuple #[]) l (nextS s r i n) B g m W) := by
  have hrow := h.rest.turns
  have htn := h.rest.turnsn
  rw [ht] at hrow htn
  obtain ⟨M, hM⟩ : ∃ M, r.length = M := ⟨_, rfl⟩
  have htn2 : m.tn = M + 1 := by rw [← htn]; simp [hM]
  rw [htn2] at hrow
  obtain ⟨tb, htA, hlow, -, hcap, -, -, -⟩ := turn_end hrow hM
  have c3 := h.cell.2.2.2.1
  rw [htn2, htA] at c3
  rw [htA] at hrow
  have hgt : tb ≠ g := by
    intro e
    obtain ⟨cur, hc⟩ := own_block hrow (b := tb) rfl
    have := h.box
    rw [e, this] at hc
    injection hc with hc
    injection hc with _ hc _
    exact absurd hc (by decide)
  have H := hid h
  have HRow := hid hrow
  have HT := hid ht
  have HtA := hid htA
  have Htn := hid htn2
  obtain ⟨n0, rfl⟩ : ∃ n0, n = n0 + 1 := ⟨n - 1, by omega⟩
  clear h hrow htn ht htA htn2
  have e1 : IntKind.i64.wrap ((M : Int) + 1 - 1) = (M : Int) := by rw [show (M : Int) + 1 - 1 = (M : Int) by omega]; exact IntWalk.i64_in _ (by omega)
  have e2 : IntKind.i64.wrap ((n0 : Int) + 1 - 1) = (n0 : Int) := by rw [show (n0 : Int) + 1 - 1 = (n0 : Int) by omega]; exact IntWalk.i64_in _ (by omega)
  have k1 : (0 : Int) ≤ (M : Int) := by omega
  have k2 : (M : Int) < (M : Int) + 1 := by omega
  have k3 : (M : Int) ≤ (m.tc : Int) := by omega
  go_enter Try.func44, Try.ntmps44
  go_upto_region 0 with fail
  go_quiet (fail)
  go_upto_region 1 with fail
  have hb0 : Below W.heap.size W (W.drewN nq) := below_drewN (Below.refl _ _) _
  obtain ⟨W1, hW1⟩ : ∃ W1, W1 = W.drewN nq := ⟨_, rfl⟩
  rw [← hW1] at hb0 ⊢
  have HKB := hid (KeepM.of_below (Z := m.O g) hb0)
  have hBB1 : Below B W W1 := by rw [hW1]; exact below_drewN (Below.refl _ _) _
  have H1 := hid (H.out.below hb0)
  have HR1 := hid (own_keep HRow.out hb0)
  obtain ⟨tb1, e, -, hlt1, -, q0, q1, qf⟩ := turn_end HR1.out hM
  injection e with e
  injection e with e _ _
  subst e
  have f1 := qf (M * 2 + 1)
  have hst := HR1.out.stored (M * 2 + 1) (.int .i64 (n0 : Int))
  rw [turns_set hM] at hst
  have HSt := hid hst.1
  clear hW1 hb0 hst c3
  go_upto_region 2 with fail
  obtain ⟨W2, hW2⟩ : ∃ W2, W2 = W1.setCell ⟨tb, M * 2 + 1, none⟩ (.int .i64 (n0 : Int)) := ⟨_, rfl⟩
  have hbox2 : W2.heap[g]? = some (.cells (m.cells s) 75) := by rw [hW2]; exact heap_other H1.out.box (Ne.symm hgt)
  have hrest2 : MRest l { s with turns := r ++ [(i, n0)] } B g { m with tA := some ⟨tb, 0, none⟩, tn := M + 1, tc := m.tc } W2 := by
    refine H1.out.rest.turnsTo ?_ ?_ (by simp [hM]) (fun b hb => Or.inl ?_) rfl rfl rfl
    · rw [hW2, HtA.out]; exact gb_set (gb_refl _ _) _ _
    · rw [hW2]; exact HSt.out
    · rw [HtA.out]; exact hb
  have hBB2 : Below B W W2 := by rw [hW2]; exact hBB1.setCell (by show B ≤ tb; exact hlow) _
  have HK2 := hid (show KeepM (m.O g) W W2 by rw [hW2]; exact HKB.out.setCell (Or.inr (Or.inl (by rw [HtA.out]; rfl))) _ _)
  clear HKB
  have HR2 := hid (show W2.ownsRow B 104 2 (.slice (some ⟨tb, 0, none⟩) (M + 1) m.tc) (M + 1) ((r ++ [(i, n0)]).flatMap turnC) by rw [hW2]; exact HSt.out)
  rw [← hW2]
  have Hbox2 := hid hbox2
  have Hrest2 := hid hrest2
  clear hW2 hbox2 hrest2 q0 q1 qf f1 HSt HR1 H1 hBB1
  obtain ⟨tb2, e, -, hlt2, -, q0, q1, qf⟩ := turn_end HR2.out hM
  injection e with e
  injection e with e _ _
  subst e
  have c3 := opblk_cell Hbox2.out 3 (.slice m.tA m.tn m.tc) rfl
  rw [Htn.out, HtA.out] at c3
  have f3 := opblk_free Hbox2.out 3
  have f2 := opblk_free Hbox2.out 2
  have c2 := opblk_cell Hbox2.out 2 (.int .i64 (s.at_ : Int)) rfl
  by_cases hn0 : n0 = 0
  · have HV := hid (show nextS s r i (n0 + 1) = { s with turns := r } by unfold nextS; rw [if_pos (by omega)])
    have hpop := ownsRow_pop (size := 2) (n := M) (xs := r.flatMap turnC) (last := turnC (i, n0)) (by rw [flat_len (enc := turnC) (size := 2) (fun _ => rfl), hM]) (by have := HR2.out; rw [List.flatMap_append] at this; simpa using this)
    have hrest3 : MRest l { s with turns := r } B g { m with tA := some ⟨tb, 0, none⟩, tn := M, tc := m.tc } W2 := by
      have := Hrest2.out.turnsTo (s' := { s with turns := r }) (A := some ⟨tb, 0, none⟩) (n := M) (c := m.tc) (gb_refl _ _) hpop hM (fun b hb => Or.inl hb) rfl rfl rfl
      exact this
    have Hrest3 := hid hrest3
    clear hpop hrest3 Hrest2 q0 qf
    have hz : ((n0 : Int) == 0) = true := by simp; omega
    go_wp2_with fail
    go_region
    all_goals
      go_wp2_with fail
      go_end0
      refine ⟨rfl, ⟨{ m with tA := some ⟨tb, 0, none⟩, tn := M, tc := m.tc }, ?_, (HK2.out.setCell (m.Og g) _ _).drew, fun b hb => ?_, rfl⟩, (hBB2.setCell (by show B ≤ g; exact H.out.low) _).drew⟩
      case refine_2 =>
        rcases hb with e | e | e
        · exact Or.inl (Or.inl e)
        · exact Or.inl (Or.inr (Or.inl (by rw [HtA.out]; exact e)))
        · exact Or.inl (Or.inr (Or.inr e))
      rw [HV.out]
      exact (MachW.store Hbox2.out H.out.low Hrest3.out 3 (.slice (some ⟨tb, 0, none⟩) M m.tc) rfl).below ((Below.refl _ _).drew)
  · have HV := hid (show nextS s r i (n0 + 1) = { s with at_ := i, turns := r ++ [(i, n0)] } by unfold nextS; rw [if_neg (by omega)]; rfl)
    have hz : ((n0 : Int) == 0) = false := by simp; omega
    have hmm : ({ m with tA := some ⟨tb, 0, none⟩, tn := M + 1, tc := m.tc } : MSlots) = m := by rw [← HtA.out, ← Htn.out]
    have hr2 := Hrest2.out
    rw [hmm] at hr2
    have Hr2 := hid hr2
    clear hmm hr2 Hrest2
    go_wp2_with fail
    go_end0
    refine ⟨rfl, ⟨m, ?_, MvM.same (HK2.out.setCell (m.Og g) _ _) rfl rfl⟩, hBB2.setCell (by show B ≤ g; exact H.out.low) _⟩
    rw [HV.out]
    exact MachW.store Hbox2.out H.out.low (Hr2.out.same (s' := { s with at_ := i, turns := r ++ [(i, n0)] }) rfl rfl rfl rfl) 2 (.int .i64 (i : Int)) rfl
end Fb
namespace Fb
open Go Go.Proofs Go.RowKit Go.Sort Go.Maps
attribute [local go_sem ↓] Go.wp_at_zero Go.wp_at_succ
theorem zero_intM (w : World) : (zeroValue 3).run Try.prog w = .ok (.int .i64 0) w := by kernel_rfl
set_option maxRecDepth 100000 in
theorem look_atM {w : World} {b n : Nat} {l : List FOp} (hf : BookFine l) (h : w.ownsMap Try.prog 3 (plainElem (H := Unit) Try.prog 3) b n (closeD l l.length)) {i : Nat} (hi : i < l.length) (hk : (opAt l i).kind = 12) :
    (Instr.lookup 63 (.map (some b)) (.int .i64 i) false).run Try.prog w = .ok (.int .i64 (endP l i)) w := by
  have h60 := hf.few
  obtain ⟨c, h1, h2, -⟩ := h.lookup_int law_int Try.underlying63 Try.underlying3 (zero_intM w) (keyOf_int_mk Try.underlying3 (WalkArith.wf_i64 (n := (i : Int)) (by omega)))
  rw [close_at hf hi hk] at h2
  injection h2 with h2
  injection h2 with _ h2
  subst h2
  exact h1
theorem info_turn : (Try.prog.info? 104).map (fun i => (i.zero, i.size, i.bytes)) = some (some (.agg #[.int .i64 0, .int .i64 0]), 2, 16) := by kernel_rfl
/-- a builtin append whose run is known, as one step of a region that draws -/
theorem step_append_run {P : Program} {ops : Array Oper} {o : Oper} {a : Act} {w : World} {K : Act → World → Prop} {Q : Exit → Act → World → Prop} {E : Prop} (hgd : o.guard = none) (s x : Operand) (t : TypeId) (ho : o.op = .call { callee := .builtin .append, args := #[s, x], argTypes := #[t, t] })
    (vs vx : Value) (hs : a.eval s = vs) (hx : a.eval x = vx) (v : Value) (w' : World) (hrun : (Builtin.append_ #[t, t] o.type #[vs, vx]).run P w = .ok v w') (h : K (a.put o.dst v) w') : if Region.wanted o (yielded ops a.tmps) = true then Oper.wp P o a w K Q else E := by
  rw [if_pos (by simp [Region.wanted, hgd])]
  unfold Oper.wp
  simp [execOp, ho, resolve, invoke, builtin, hs, hx, hrun, Result.andThen]
  exact h
def loopS (l : List FOp) (s : MSt) (a : Int) : MSt := if a = 0 then { s with at_ := endP l s.at_ } else { s with turns := s.turns ++ [(s.at_, a.toNat)] }
set_option maxRecDepth 100000 in
set_option maxHeartbeats 4000000 in
theorem mloop_any (l : List FOp) (s : MSt) (B g : Nat) (m : MSlots) (W : World) (h : MachW l s B g m W) (hf : BookFine l) (hat : s.at_ < l.length) (hk : (opAt l s.at_).kind = 12) (hlen : s.turns.length ≤ 100) (k i a b c d pw ph : Int) (A : Option Addr) (n cp : Nat) (ha : 0 ≤ a ∧ a ≤ 9) :
    Calls Try.prog 43 #[.pointer (some ⟨g, 0, none⟩), .agg #[.int .i64 k, .int .i64 i, .int .i64 a, .int .i64 b, .int .i64 c, .int .i64 d, .int .i64 pw, .int .i64 ph, .slice A n cp]] W (RetM (.tuple #[]) l (loopS l s a) B g m W) := by
  obtain ⟨i0, hi, hz0, hz1, hz2⟩ := info_parts info_turn
  have H := hid h
  have HF := hid hf
  have HK := hid hk
  have hgW : g < W.heap.size := (Array.getElem?_eq_some_iff.1 h.box).1
  have hBg := h.low
  clear h hf hk
  go_enter Try.func43, Try.ntmps43
  go_upto_region 1 with fail
  obtain ⟨W1, hW1⟩ : ∃ W1, W1 = W.alloc (.cells #[.int .i64 k, .int .i64 i, .int .i64 a, .int .i64 b, .int .i64 c, .int .i64 d, .int .i64 pw, .int .i64 ph, .slice A n cp] 51) := ⟨_, rfl⟩
  have hb1 : Below W.heap.size W W1 := by rw [hW1]; exact (Below.refl _ _).alloc (Nat.le_refl _) _
  have hBB1 : Below B W W1 := by rw [hW1]; exact (Below.refl _ _).alloc (by omega) _
  have HO1 : Hid (OpBoxAt W.heap.size k i a b c d pw ph A n cp W1) := hid (by rw [hW1]; exact heap_alloc_new W _)
  obtain ⟨go, hgo⟩ : ∃ x, x = W.heap.size := ⟨_, rfl⟩
  rw [← hgo] at HO1
  rw [← hW1, ← hgo]
  have H1 := hid (H.out.below hb1)
  have HKB := hid (KeepM.of_below (Z := m.O g) hb1)
  have HSZ := hid hb1.size
  clear hW1 hgo hb1 H
  obtain ⟨c0, c1, c2, c3, c4, c5, c6, c7, c8⟩ := OpBoxAt.cells HO1.out
  obtain ⟨x0, x1, x2, x3, x4, x5, x6, x7, x8⟩ := H1.out.cell
  have f2 := opblk_free H1.out.box 2
  have f3 := opblk_free H1.out.box 3
  by_cases ha0 : a = 0
  · have hlk := look_atM HF.out H1.out.rest.ends hat HK.out
    have hlk2 := look_atM (w := W1.drew) HF.out H1.out.rest.ends hat HK.out
    have HV := hid (show loopS l s a = { s with at_ := endP l s.at_ } by unfold loopS; rw [if_pos ha0])
    go_wp2_with fail
    go_region
    all_goals
      go_wp2_with fail
      go_end0
      refine ⟨rfl, ⟨m, ?_, MvM.same (HKB.out.setCell (m.Og g) _ _).drew rfl rfl⟩, (hBB1.setCell (by show B ≤ g; exact hBg) _).drew⟩
      rw [HV.out]
      exact (MachW.store H1.out.box H1.out.low (H1.out.rest.same (s' := { s with at_ := endP l s.at_ }) rfl rfl rfl rfl) 2 (.int .i64 (endP l s.at_ : Int)) rfl).below ((Below.refl _ _).drew)
  · obtain ⟨X, hX⟩ : ∃ X, X = (W1.alloc (.cells #[.int .i64 (s.at_ : Int), .int .i64 a] 104)).drew := ⟨_, rfl⟩
    have hbX : Below W1.heap.size W1 X := by rw [hX]; exact ((Below.refl _ _).alloc (Nat.le_refl _) _).drew
    have HX := hid (H1.out.below hbX)
    obtain ⟨v', w', hrun, hown, hgr, -, hvo⟩ := run_append_own_at (P := Try.prog) X B 73 73 104 i0 (.agg #[.int .i64 0, .int .i64 0]) 2 16 Try.underlying73 hi hz0 hz1 hz2 rfl (by decide) (.slice m.tA m.tn m.tc) m.tn (s.turns.flatMap turnC) HX.out.rest.turns ⟨W1.heap.size, 0, none⟩ 1 1 [.int .i64 (s.at_ : Int), .int .i64 a] rfl (by rw [hX]; exact new_cells W1.drew #[.int .i64 (s.at_ : Int), .int .i64 a] 104) (by intro u hu; simp at hu; rcases hu with rfl | rfl <;> rfl) (by have := HX.out.rest.turnsn; unfold maxLen; omega) (by have := HX.out.rest.turnsn; omega) (by have := hbX.size; have := (Array.getElem?_eq_some_iff.1 H1.out.box).1; omega)
    obtain ⟨tA', tc', rfl, -, -⟩ := own_slice hown
    have hsz : B ≤ X.heap.size := by have := hbX.size; have := (Array.getElem?_eq_some_iff.1 H1.out.box).1; omega
    have hbr : ∀ b, (Value.slice m.tA m.tn m.tc).ownBlock = some b → B ≤ b := fun b e => (HX.out.rest.turns.lt b e).1
    have hcells : (s.turns ++ [(s.at_, a.toNat)]).flatMap turnC = s.turns.flatMap turnC ++ [.int .i64 (s.at_ : Int), .int .i64 a] := by
      rw [List.flatMap_append]; simp [turnC, Int.toNat_of_nonneg ha.1]
    have hrest := HX.out.rest.turnsTo (s' := { s with turns := s.turns ++ [(s.at_, a.toNat)] }) hgr (by rw [hcells]; exact hown) (by simp [HX.out.rest.turnsn]) (fun b hb => by
      rcases hvo with e | e
      · exact Or.inl (by rw [← e]; exact hb)
      · rw [e] at hb; injection hb with hb; exact Or.inr (by omega)) rfl rfl rfl
    have hbox : w'.heap[g]? = some (.cells (m.cells s) 75) := by
      rw [hgr.block g (Array.getElem?_eq_some_iff.1 HX.out.box).1 (fun e => own_not HX.out.rest.turns HX.out.box (by decide) e.symm)]
      exact HX.out.box
    have hBw : Below B W w' := below_own (hBB1.trans (Below.mono hbX (by have := (Array.getElem?_eq_some_iff.1 H1.out.box).1; omega))) hgr hsz hbr
    have HKW := hid (show KeepM (m.O g) W w' from (HKB.out.trans (KeepM.of_below (Z := m.O g) hbX) (fun _ hb => Or.inl hb)).trans (KeepM.of_grown (Z := m.O g) hgr (fun b e => Or.inr (Or.inl e))) (fun _ hb => Or.inl hb))
    have HZW := hid (fun b (hb : (Value.slice tA' (m.tn + 1) tc').ownBlock = some b) => (by
      rcases hvo with e | e
      · exact Or.inl (by rw [← e]; exact hb)
      · rw [e] at hb; injection hb with hb; have h1 := hbX.size; have h2 := HSZ.out; exact Or.inr (by omega) : (Value.slice m.tA m.tn m.tc).ownBlock = some b ∨ W.heap.size ≤ b))
    have HV := hid (show loopS l s a = { s with turns := s.turns ++ [(s.at_, a.toNat)] } by unfold loopS; rw [if_neg ha0])
    have Hrest := hid hrest
    have Hbox := hid hbox
    have g3 := opblk_free hbox 3
    have y3 := opblk_cell hbox 3 (.slice m.tA m.tn m.tc) rfl
    have hz : (a == 0) = false := by simp [ha0]
    have xx2 := HX.out.cell.2.2.1
    have xx3 := HX.out.cell.2.2.2.1
    have cc2 := (OpBoxAt.cells (blk_keep HO1.out hbX)).2.2.1
    rw [hX] at hrun xx2 xx3 cc2
    clear hX hvo hown hgr hcells hrest hbox hbr hsz HX hbX
    go_wp2_with fail
    go_region_law (refine step_append_run rfl (.tmp 23) (.tmp 31) 73 rfl _ _ rfl rfl _ _ hrun ?_)
    all_goals
      go_wp2_with fail
      go_end0
      refine ⟨rfl, ⟨{ m with tA := tA', tn := m.tn + 1, tc := tc' }, ?_, HKW.out.setCell (m.Og g) _ _, fun b hb => ?_, rfl⟩, hBw.setCell (by show B ≤ g; exact hBg) _⟩
      case refine_2 =>
        rcases hb with e | e | e
        · exact Or.inl (Or.inl e)
        · rcases HZW.out b e with e | e
          · exact Or.inl (Or.inr (Or.inl e))
          · exact Or.inr e
        · exact Or.inl (Or.inr (Or.inr e))
      rw [HV.out]
      exact MachW.store Hbox.out hBg Hrest.out 3 (.slice tA' (m.tn + 1) tc') rfl
end Fb
namespace Fb
open Go Go.Proofs Go.RowKit Go.Sort
attribute [local go_sem ↓] Go.wp_at_zero Go.wp_at_succ
/-! ## a region whose last operation waits for all others: what stands ahead is walked by 'wpAnyH' -/
def LastQ (P : Program) (l : List Oper) (Q : Exit → Act → World → Prop) (o : Oper) : Exit → Act → World → Prop
  | .normal, a, w => wpList P l.toArray Q [o] a w
  | .panic _, _, _ => False
  | e, a, w => Q e a w
section
variable {P : Program} {md : Region.Mode} {S : World → Prop} {h : List Oper} {o : Oper} {l0 : List Oper}
theorem lastQ_normal {Q : Exit → Act → World → Prop} (hg : o.guard = none) {a : Act} {w : World} (hq : LastQ P l0 Q o .normal a w) : o.wp P a w (fun a w => Q .normal a w) Q ∨ (o.asks P a w ∧ LetsOut Q) := by
  have h2 : wpList P l0.toArray Q [o] a w := hq
  unfold wpList at h2
  rw [if_pos (wanted_none hg _)] at h2
  exact h2
theorem lastQ_exit {Q : Exit → Act → World → Prop} (e : Exit) (hn : e ≠ .normal) (a : Act) (w : World) (h : LastQ P l0 Q o e a w) : Q e a w := by
  cases e with
  | normal => exact absurd rfl hn
  | panic c => exact (show False from h).elim
  | _ => exact h
theorem lastQ_lets {Q : Exit → Act → World → Prop} (h : LetsOut (LastQ P l0 Q o)) : LetsOut Q := h
theorem lastQ_wp {x : Oper} {Q : Exit → Act → World → Prop} {K : Act → World → Prop} {a : Act} {w : World} (h : x.wp P a w K (LastQ P l0 Q o)) : x.wp P a w K Q := by
  unfold Oper.wp at h ⊢
  generalize (execOp a.eval x).run P w = r at *
  cases r with
  | ok n w' =>
    cases n <;> simp only [Oper.upon] at h ⊢
    case enter f args =>
      refine Calls.mono h fun e w'' he => ?_
      cases e with
      | returned u => exact he
      | panicked c => exact (show False from he).elim
      | outgrown => exact lastQ_lets he
    all_goals exact h
  | halt y w' =>
    cases y <;> simp only [Oper.upon] at h ⊢
    case panic u => exact (show False from h).elim
def waitsB (md : Region.Mode) (x : Oper) (i : Nat) : Bool := x.after.any fun e => Region.binds md e && decide (e.on = i)
/-- no guards, edges that point back, and a last operation that waits for each one, or for one that waits for it -/
def lastB2 (md : Region.Mode) (h : List Oper) (o : Oper) : Bool :=
  ((List.range h.length).all fun j => (h[j]?).elim true fun x => x.guard.isNone && x.after.all fun e => decide (e.on < j)) &&
  (o.guard.isNone && ((o.after.all fun e => decide (e.on < h.length)) && (List.range h.length).all fun i => waitsB md o i || (List.range h.length).any fun j => waitsB md o j && (h[j]?).elim false fun x => waitsB md x i))
theorem waits_spec {x : Oper} {i : Nat} (hw : waitsB md x i = true) : ∃ e ∈ x.after, Region.binds md e = true ∧ e.on = i := by
  obtain ⟨e, he, hb⟩ := Array.any_eq_true'.1 hw
  simp only [Bool.and_eq_true, decide_eq_true_eq] at hb
  exact ⟨e, he, hb.1, hb.2⟩
theorem lastB2_head (hB : lastB2 md h o = true) {j : Nat} {x : Oper} (hx : h[j]? = some x) : x.guard = none ∧ ∀ e ∈ x.after, e.on < j := by
  unfold lastB2 at hB
  simp only [Bool.and_eq_true] at hB
  have hj := (List.getElem?_eq_some_iff.1 hx).1
  have h1 := List.all_eq_true.1 hB.1 j (List.mem_range.2 hj)
  rw [hx] at h1
  simp only [Option.elim_some, Bool.and_eq_true, Option.isNone_iff_eq_none] at h1
  exact ⟨h1.1, fun e he => by simpa using Array.all_eq_true'.1 h1.2 e he⟩
theorem lastB2_last (hB : lastB2 md h o = true) : o.guard = none ∧ (∀ e ∈ o.after, e.on < h.length) ∧ ∀ i, i < h.length → waitsB md o i = true ∨ ∃ j x, h[j]? = some x ∧ waitsB md o j = true ∧ waitsB md x i = true := by
  unfold lastB2 at hB
  simp only [Bool.and_eq_true, Option.isNone_iff_eq_none] at hB
  obtain ⟨-, h1, h2, h3⟩ := hB
  refine ⟨h1, fun e he => by simpa using Array.all_eq_true'.1 h2 e he, fun i hi => ?_⟩
  have h4 := List.all_eq_true.1 h3 i (List.mem_range.2 hi)
  simp only [Bool.or_eq_true] at h4
  rcases h4 with h4 | h4
  · exact Or.inl h4
  · obtain ⟨j, -, h5⟩ := List.any_eq_true.1 h4
    simp only [Bool.and_eq_true] at h5
    cases hx : h[j]? with
    | none => rw [hx] at h5; simp at h5
    | some x => rw [hx] at h5; exact Or.inr ⟨j, x, hx, h5.1, h5.2⟩
theorem getD_tf {l : Array Bool} {k : Nat} (h : l.getD k false = true) : l.getD k true = true := by
  rw [Array.getD_eq_getD_getElem?] at h ⊢
  cases hk : l[k]? with
  | none => rfl
  | some b => rw [hk] at h; exact h
/-- what has come up, and all that it waited for -/
def ClosedL (md : Region.Mode) (h : List Oper) (l : Array Bool) : Prop := ∀ j x, h[j]? = some x → l.getD j true = true → ∀ e ∈ x.after, Region.binds md e = true → l.getD e.on true = true
theorem ClosedL.set {l : Array Bool} (c : ClosedL md h l) {i : Nat} (hr : i ∈ Region.ready md h.toArray l) : ClosedL md h (l.setIfInBounds i true) := by
  intro j x hx hl e he hb
  have up : ∀ k, l.getD k true = true → (l.setIfInBounds i true).getD k true = true := fun k hk => by
    by_cases e1 : i = k
    · subst e1
      rw [Array.getD_eq_getD_getElem?, Array.getElem?_setIfInBounds]
      simp only [if_true]
      split <;> rfl
    · rw [getD_set_ne true e1]; exact hk
  by_cases e1 : i = j
  · subst e1
    obtain ⟨-, x', h2, h3⟩ := mem_ready.1 hr
    have : x' = x := by
      have h4 : h[i]? = some x' := by simpa using h2
      rw [hx] at h4
      exact (Option.some.inj h4).symm
    subst this
    exact up _ (getD_tf (h3 e he hb))
  · rw [getD_set_ne true e1] at hl
    exact up _ (c j x hx hl e he hb)
theorem ready_down2 (hB : lastB2 md h o = true) {l' l : Array Bool} (b : Both2 h.length l' l) (c : ClosedL md h l') {i : Nat} (hr : i ∈ Region.ready md (h ++ [o]).toArray l) :
    (i < h.length ∧ i ∈ Region.ready md h.toArray l') ∨ (i = h.length ∧ AllL h.length l') := by
  obtain ⟨h1, x, h2, h3⟩ := mem_ready.1 hr
  have hi : i < h.length + 1 := by
    have := (Array.getElem?_eq_some_iff.1 h2).1
    simpa using this
  rcases Nat.lt_or_ge i h.length with hlt | hge
  · left
    rw [at_head hlt] at h2
    refine ⟨hlt, mem_ready.2 ⟨by rw [b.getD hlt]; exact h1, x, by simpa using h2, fun e he hb => ?_⟩⟩
    rw [b.getD (Nat.lt_trans ((lastB2_head hB h2).2 e he) hlt)]
    exact h3 e he hb
  · right
    obtain rfl : i = h.length := by omega
    rw [at_last] at h2
    injection h2 with h2
    subst h2
    have dir : ∀ j, j < h.length → waitsB md o j = true → l'.getD j true = true := fun j hj hw => by
      obtain ⟨e, he, hb, rfl⟩ := waits_spec hw
      rw [b.getD hj]
      exact getD_tf (h3 e he hb)
    have both : ∀ j, j < h.length → l'.getD j true = true → l'.getD j false = true := fun j hj hl => by
      have hs1 := b.s1
      rw [Array.getD_eq_getD_getElem?, Array.getElem?_eq_getElem (by omega)] at hl ⊢
      simpa using hl
    refine ⟨rfl, fun j hj => both j hj ?_⟩
    rcases (lastB2_last hB).2.2 j hj with hw | ⟨k, x, hx, hk, hw⟩
    · exact dir j hj hw
    · have hkl := (List.getElem?_eq_some_iff.1 hx).1
      obtain ⟨e, he, hb, rfl⟩ := waits_spec hw
      exact c k x hx (dir k hkl hk) e he hb
theorem ready_up2 (hB : lastB2 md h o = true) {l' l : Array Bool} (b : Both2 h.length l' l) {i : Nat} (hi : i < h.length) (hr : i ∈ Region.ready md h.toArray l') : i ∈ Region.ready md (h ++ [o]).toArray l := by
  obtain ⟨h1, x, h2, h3⟩ := mem_ready.1 hr
  have h2' : h[i]? = some x := by simpa using h2
  refine mem_ready.2 ⟨by rw [← b.getD hi]; exact h1, x, by rw [at_head hi]; exact h2', fun e he hb => ?_⟩
  rw [← b.getD (Nat.lt_trans ((lastB2_head hB h2').2 e he) hi)]
  exact h3 e he hb
theorem ready_last2 (hB : lastB2 md h o = true) {l' l : Array Bool} (b : Both2 h.length l' l) (ha : AllL h.length l') : h.length ∈ Region.ready md (h ++ [o]).toArray l := by
  refine mem_ready.2 ⟨by rw [Array.getD_eq_getD_getElem?, b.last]; rfl, o, at_last, fun e he _ => ?_⟩
  have hlt := (lastB2_last hB).2.1 e he
  rw [← b.getD hlt]
  have h5 := ha _ hlt
  have hs1 := b.s1
  rw [Array.getD_eq_getD_getElem?, Array.getElem?_eq_getElem (by omega)] at h5 ⊢
  simpa using h5
theorem all_of_none2 (hB : lastB2 md h o = true) {l' : Array Bool} (hs : l'.size = h.length) (hr : Region.ready md h.toArray l' = []) : AllL h.length l' := by
  intro j
  induction j using Nat.strongRecOn with
  | _ j ih =>
    intro hj
    cases hd : l'.getD j true with
    | true =>
      rw [Array.getD_eq_getD_getElem?] at hd ⊢
      rw [Array.getElem?_eq_getElem (by omega)] at hd ⊢
      simpa using hd
    | false =>
      exfalso
      have hx : h[j]? = some h[j] := List.getElem?_eq_getElem hj
      have : j ∈ Region.ready md h.toArray l' := mem_ready.2 ⟨hd, h[j], by simp, fun e he _ => by
        have hlt := (lastB2_head hB hx).2 e he
        have h5 := ih e.on hlt (Nat.lt_trans hlt hj)
        rw [Array.getD_eq_getD_getElem?, Array.getElem?_eq_getElem (by omega)] at h5 ⊢
        simpa using h5⟩
      rw [hr] at this
      cases this
theorem wpAny_tailH (hB : lastB2 md h o = true) {Q : Exit → Act → World → Prop} : ∀ (f : Nat) (l' l : Array Bool) (a : Act) (w : World), Both2 h.length l' l → ClosedL md h l' →
    wpAnyH P md h.toArray (LastQ P l0 Q o) S f l' a w → wpAny P md (h ++ [o]).toArray Q (f + 1) l a w := by
  have fin : ∀ (f : Nat) (l' l : Array Bool) (a : Act) (w : World), Both2 h.length l' l → ClosedL md h l' → AllL h.length l' → (o.wp P a w (fun a w => Q .normal a w) Q ∨ (o.asks P a w ∧ LetsOut Q)) → wpAny P md (h ++ [o]).toArray Q (f + 1) l a w := by
    intro f l' l a w b c ha hw
    refine ⟨fun h0 => ?_, fun i hi => ?_⟩
    · have := ready_last2 hB b ha
      rw [h0] at this
      cases this
    · rcases ready_down2 hB b c hi with ⟨h1, h2⟩ | ⟨rfl, -⟩
      · exfalso
        have h3 := (mem_ready.1 h2).1
        have h4 := ha i h1
        rw [Array.getD_eq_getD_getElem?, Array.getElem?_eq_getElem (by have := b.s1; omega)] at h3 h4
        simp at h3 h4
        rw [h3] at h4
        cases h4
      · unfold wpOp
        rw [at_last]
        simp only [wanted_none (lastB2_last hB).1, if_true]
        have hend : ∀ j, j < (h ++ [o]).toArray.size → (l.setIfInBounds h.length true).getD j true = true := by
          intro j hj
          have hj' : j < h.length + 1 := by simpa using hj
          have hs2 := b.s2
          rw [Array.getD_eq_getD_getElem?, Array.getElem?_setIfInBounds]
          by_cases e : h.length = j
          · subst e; simp [hs2]
          · rw [if_neg e]
            have hlt : j < h.length := by omega
            have h5 := ha j hlt
            rw [b.getD hlt, Array.getD_eq_getD_getElem?, Array.getElem?_eq_getElem (by omega)] at h5
            rw [Array.getElem?_eq_getElem (by omega)]
            simpa using h5
        rcases hw with hw | hw
        · exact .inl (Oper.wp_mono (fun a' w' hq => wpAny_end (none_of_all hend) hq f) hw)
        · exact .inr hw
  have hg := (lastB2_last hB).1
  intro f
  induction f with
  | zero =>
    intro l' l a w b c hq
    exact fin 0 l' l a w b c (all_of_none2 hB b.s1 hq.1) (lastQ_normal hg hq.2)
  | succ f ih =>
    intro l' l a w b c hq
    by_cases hr : Region.ready md h.toArray l' = []
    · exact fin (f + 1) l' l a w b c (all_of_none2 hB b.s1 hr) (lastQ_normal hg (hq.1 hr))
    · refine ⟨fun h0 => ?_, fun i hi => ?_⟩
      · exfalso
        cases hr' : Region.ready md h.toArray l' with
        | nil => exact hr hr'
        | cons i r =>
          have hm : i ∈ Region.ready md h.toArray l' := by rw [hr']; simp
          obtain ⟨-, x, h2, -⟩ := mem_ready.1 hm
          have hi : i < h.length := by have := (Array.getElem?_eq_some_iff.1 h2).1; simpa using this
          have := ready_up2 hB b hi hm
          rw [h0] at this
          cases this
      · rcases ready_down2 hB b c hi with ⟨h1, h2⟩ | ⟨rfl, ha⟩
        · have h3 := hq.2 i h2
          have hx : h[i]? = some h[i] := List.getElem?_eq_getElem h1
          have hgi := (lastB2_head hB hx).1
          unfold wpOp at h3 ⊢
          rw [show h.toArray[i]? = some h[i] by simp] at h3
          rw [at_head h1, hx]
          simp only [wanted_none hgi, if_true] at h3 ⊢
          rcases h3 with h3 | ⟨h3, h4⟩
          · exact .inl (Oper.wp_mono (fun a' w' hk => ih _ _ a' w' (b.set h1) (c.set h2) hk.2) (lastQ_wp h3))
          · exact .inr ⟨h3, lastQ_lets h4⟩
        · exfalso
          apply hr
          exact none_of_all fun j hj => by
            have hj' : j < h.length := by simpa using hj
            have h5 := ha j hj'
            have hs1 := b.s1
            rw [Array.getD_eq_getD_getElem?, Array.getElem?_eq_getElem (by omega)] at h5 ⊢
            simpa using h5
end
/-- what stands ahead of the last operation is walked with S at hand; the last one then, in the world that has come of it -/
theorem wp_region_held_last {P : Program} {id : Nat} {Q : Exit → Act → World → Prop} {a : Act} {w : World} (S : World → Prop) {l : List Oper} (n : Nat) (o : Oper) (hd : l.drop n = [o]) (hm : P.follows .mixedOrders = true) (hB : lastB2 .any (l.take n) o = true)
    (hS : S w.drew) (hw : S w.drew → wpAnyH P .any (l.take n).toArray (LastQ P l Q o) S (l.take n).toArray.size (Array.replicate (l.take n).toArray.size false) a w.drew) : (Code.region id l.toArray true).wp P Q a w := by
  have e : l = l.take n ++ [o] := by rw [← hd, List.take_append_drop]
  refine wp_region_any hm ?_
  have := wpAny_tailH (P := P) (S := S) (Q := Q) (l0 := l) hB (l.take n).toArray.size (Array.replicate (l.take n).toArray.size false) (Array.replicate (l.take n ++ [o]).toArray.size false) a w.drew
    ⟨by simp, by simp, fun i hi => by
      have : i < ((l.take n).toArray).size := by simpa using hi
      simp only [Array.getElem?_replicate]
      rw [if_pos this, if_pos (by simp at this ⊢; omega)], by simp⟩ (fun j x hx hl => by
      have hj := (List.getElem?_eq_some_iff.1 hx).1
      rw [Array.getD_eq_getD_getElem?, Array.getElem?_replicate, if_pos (by simpa using hj)] at hl
      simp at hl) (hw hS)
  rw [← e] at this
  have hl : l.toArray.size = (l.take n).toArray.size + 1 := by
    have := congrArg List.length e
    simpa using this
  rw [hl]
  rw [show (Array.replicate ((l.take n).toArray.size + 1) false) = Array.replicate l.toArray.size false by rw [hl]]
  exact this
theorem info_frameM : (Try.prog.info? 60).map (fun i => (i.zero, i.size, i.bytes)) = some (some (.agg #[.int .i64 0, .int .i64 0, .slice none 0 0, .int .i64 0]), 4, 48) := by kernel_rfl
/-- an op of a row, cell by cell -/
theorem ops_at {w : World} {A : Option Addr} {n : Nat} {rs : List (FAt FOp)} (h : Ops w A n rs) {k : Nat} (hk : k < n) :
    ∃ b off r, A = some ⟨b, off, none⟩ ∧ b < w.heap.size ∧ rs[k]? = some r ∧ ∀ j u, (opCells r)[j]? = some u → w.cell? ⟨b, off + k * 9 + j, none⟩ = some u := by
  obtain ⟨b, off, e, hb, hc⟩ := h.2.1.2 (by omega)
  have hk2 : k < rs.length := by rw [h.1]; exact hk
  refine ⟨b, off, rs[k], e, hb, by simp [hk2], fun j u hu => ?_⟩
  have hj : j < 9 := (Array.getElem?_eq_some_iff.1 (show (#[(0 : Nat), 0, 0, 0, 0, 0, 0, 0, 0])[j]? = some 0 by
    have := (List.getElem?_eq_some_iff.1 hu).1
    simp [opCells] at this
    match j, this with
    | 0, _ => rfl | 1, _ => rfl | 2, _ => rfl | 3, _ => rfl | 4, _ => rfl | 5, _ => rfl | 6, _ => rfl | 7, _ => rfl | 8, _ => rfl)).1
  rw [show off + k * 9 + j = off + (k * 9 + j) by omega]
  exact hc _ _ ((flat_at (enc := opCells) (size := 9) (fun _ => rfl) rs k j rs[k] (by simp [hk2]) hj).trans hu)
theorem ops_fst {l : List FOp} {ols : List (FAt FOp)} (hd : datO ols = l) {k : Nat} {r : FAt FOp} (hr : ols[k]? = some r) : opAt l k = r.x := by
  subst hd
  have hk := (List.getElem?_eq_some_iff.1 hr).1
  rw [datO_at hk]
  rw [List.getElem?_eq_getElem hk] at hr
  injection hr with hr
  rw [hr]
theorem MRest.Zlt {l : List FOp} {s : MSt} {B g : Nat} {m : MSlots} {W : World} (h : MRest l s B g m W) (hg : g < W.heap.size) : ∀ b, m.Z g b → b < W.heap.size := by
  rintro b (e | e | e | e)
  · omega
  · exact (h.turns.lt b e).2
  · exact (h.frames.lt b e).2
  · exact h.ylt b e
theorem MRest.Olt {l : List FOp} {s : MSt} {B g : Nat} {m : MSlots} {W : World} (h : MRest l s B g m W) (hg : g < W.heap.size) : ∀ b, m.O g b → b < W.heap.size := fun b hb => h.Zlt hg b (MSlots.O_Z hb)
theorem dat_fineM {rs : List (FAt FObj)} (h : ∀ o ∈ dat rs, ObjFine o) : ∀ r ∈ rs, ObjFine r.x := fun r hr => h _ (List.mem_map.2 ⟨r, hr, rfl⟩)
theorem set_apart {W : World} {g o b o2 : Nat} {u v : Value} (h : W.cell? ⟨b, o2, none⟩ = some u) (hne : b = g → o2 ≠ o) : (W.setCell ⟨g, o, none⟩ v).cell? ⟨b, o2, none⟩ = some u := by
  rw [World.cell?_setCell_other W ⟨g, o, none⟩ ⟨b, o2, none⟩ v (by intro e; injection e with e1 e2 _; first | exact hne e1 e2 | exact hne e1.symm e2.symm)]
  exact h
def waitS (l : List FOp) (s : MSt) (a : Int) : MSt × Nat := if s.frames.length = 40 then (s, 7) else ({ s with frames := s.frames ++ [⟨seenP s.objs (headW l) (headH l) s.back, a⟩] }, 0)
/-- a new frame -/
theorem wait_done {l : List FOp} {s : MSt} {B g : Nat} {m : MSlots} {W1 wa w1 : World} (h : MachW l s B g m W1) (hb : Below W1.heap.size W1 wa) {x : FPic} {a : Int} {Ap : Option Addr} {N cp : Nat} (hp : Pixs wa Ap N x.p) (hnew : ∀ q, Ap = some q → W1.heap.size ≤ q.block) {ob : Go.Obj} {gg c' : Nat}
    (hg : (wa.alloc ob).grownBy w1 (Value.slice m.fA m.fn m.fc).ownBlock) (hown : w1.ownsRow B 60 4 (.slice (some ⟨gg, 0, none⟩) (m.fn + 1) c') (m.fn + 1) (m.frs.flatMap frCells ++ [.int .i64 x.w, .int .i64 x.h, .slice Ap N cp, .int .i64 a]))
    (hat : (Value.slice m.fA m.fn m.fc).ownBlock = some gg ∨ gg = (wa.alloc ob).heap.size) :
    ∃ m', MachW l { s with frames := s.frames ++ [⟨x, a⟩] } B g m' (w1.setCell ⟨g, 8, none⟩ (.slice (some ⟨gg, 0, none⟩) (m.fn + 1) c')) ∧ MvM m g W1 m' (w1.setCell ⟨g, 8, none⟩ (.slice (some ⟨gg, 0, none⟩) (m.fn + 1) c')) := by
  have hg1 : g < W1.heap.size := (Array.getElem?_eq_some_iff.1 h.box).1
  have hX : Below W1.heap.size W1 (wa.alloc ob) := hb.alloc hb.size _
  have HX := h.below hX
  have hal : Below wa.heap.size wa (wa.alloc ob) := (Below.refl _ _).alloc (Nat.le_refl _) _
  have hfr : FFrs (m.Z g) (wa.alloc ob) (m.frs ++ [⟨⟨x, a⟩, Ap, N, cp⟩]) := by
    refine ⟨fun r hr => ?_, fun r hr => ?_⟩
    · rcases List.mem_append.1 hr with hr | hr
      · exact HX.rest.pics.pixs r hr
      · simp at hr; subst hr; exact hp.below hal
    · rcases List.mem_append.1 hr with hr | hr
      · exact HX.rest.pics.pics r hr
      · simp at hr; subst hr; exact FarR.new hnew (h.rest.Zlt hg1)
  have hrest := HX.rest.framesTo (s' := { s with frames := s.frames ++ [⟨x, a⟩] }) (A := some ⟨gg, 0, none⟩) (n := m.fn + 1) (c := c') hg (frs := m.frs ++ [⟨⟨x, a⟩, Ap, N, cp⟩]) (by rw [List.flatMap_append]; exact hown) (by simp [HX.rest.framesn]) (fun b e => by
    have e2 : gg = b := by simpa [Value.ownBlock] using e
    subst e2
    rcases hat with e | e
    · exact Or.inl e
    · exact Or.inr (by rw [e]; exact Nat.le_refl _)) hfr (by unfold frD; rw [List.map_append]; have := HX.rest.framesd; unfold frD at this; rw [this]; rfl) rfl rfl rfl
  have hbox : w1.heap[g]? = some (.cells (m.cells s) 75) := by
    rw [hg.block g (Array.getElem?_eq_some_iff.1 HX.box).1 (fun e => own_not HX.rest.frames HX.box (by decide) e.symm)]
    exact HX.box
  refine ⟨_, MachW.store hbox h.low hrest 8 (.slice (some ⟨gg, 0, none⟩) (m.fn + 1) c') rfl, ((KeepM.of_below hX).trans (KeepM.of_grown (Z := m.O g) hg (fun b e => Or.inr (Or.inr e))) (fun _ hb => Or.inl hb)).setCell (m.Og g) _ _, fun b hb => ?_, rfl⟩
  rcases hb with e | e | e
  · exact Or.inl (Or.inl e)
  · exact Or.inl (Or.inr (Or.inl e))
  · have e2 : gg = b := by simpa [Value.ownBlock] using e
    subst e2
    rcases hat with e | e
    · exact Or.inl (Or.inr (Or.inr e))
    · have := hX.size
      exact Or.inr (by omega)
set_option maxRecDepth 100000 in
set_option maxHeartbeats 4000000 in
theorem mwait_any (l : List FOp) (s : MSt) (B g : Nat) (m : MSlots) (W : World) (h : MachW l s B g m W) (hf : BookFine l) (hok : MOk l s) (k i a b c d pw ph : Int) (A : Option Addr) (n cp : Nat) :
    Calls Try.prog 42 #[.pointer (some ⟨g, 0, none⟩), .agg #[.int .i64 k, .int .i64 i, .int .i64 a, .int .i64 b, .int .i64 c, .int .i64 d, .int .i64 pw, .int .i64 ph, .slice A n cp]] W (RetM (errV (waitS l s a).2) l (waitS l s a).1 B g m W) := by
  obtain ⟨i0, hi, hz0, hz1, hz2⟩ := info_parts info_frameM
  obtain ⟨s1, s2, s3, s4, s5, s6⟩ := head_sides hf
  have H := hid h
  have Hok := hid hok
  have hgW : g < W.heap.size := (Array.getElem?_eq_some_iff.1 h.box).1
  have hBg := h.low
  have hl0 : 0 < m.ln := by
    have h1 := h.rest.ops.ops.1
    have h2 := congrArg List.length h.rest.opsd
    rw [datO_len] at h2
    have := hf.two
    omega
  have hfew := hok.few
  have hfl : s.frames.length = m.fn := by rw [← h.rest.framesd, ← h.rest.framesn]; simp [frD]
  clear h hf hok
  go_enter Try.func42, Try.ntmps42
  go_upto_region 1 with fail
  obtain ⟨W1, hW1⟩ : ∃ W1, W1 = W.alloc (.cells #[.int .i64 k, .int .i64 i, .int .i64 a, .int .i64 b, .int .i64 c, .int .i64 d, .int .i64 pw, .int .i64 ph, .slice A n cp] 51) := ⟨_, rfl⟩
  have hb1 : Below W.heap.size W W1 := by rw [hW1]; exact (Below.refl _ _).alloc (Nat.le_refl _) _
  have hBB1 : Below B W W1 := by rw [hW1]; exact (Below.refl _ _).alloc (by omega) _
  have HO1 : Hid (OpBoxAt W.heap.size k i a b c d pw ph A n cp W1) := hid (by rw [hW1]; exact heap_alloc_new W _)
  obtain ⟨go, hgo⟩ : ∃ x, x = W.heap.size := ⟨_, rfl⟩
  rw [← hgo] at HO1
  rw [← hW1, ← hgo]
  have H1 := hid (H.out.below hb1)
  have HB0 := hid hb1
  clear hW1 hgo hb1 H
  have x8 := H1.out.cell.2.2.2.2.2.2.2.2
  have c2 := (OpBoxAt.cells HO1.out).2.2.1
  by_cases hfu : m.fn = 40
  · have HV := hid (show waitS l s a = (s, 7) by unfold waitS; rw [if_pos (by omega)])
    have hz : ((m.fn : Int) == 40) = true := by simp; omega
    go_wp2_with fail
    go_ret
    rw [HV.out]
    exact ⟨rfl, ⟨m, H1.out, MvM.same (KeepM.of_below HB0.out) rfl rfl⟩, hBB1⟩
  · have HV := hid (show waitS l s a = ({ s with frames := s.frames ++ [⟨seenP s.objs (headW l) (headH l) s.back, a⟩] }, 0) by unfold waitS; rw [if_neg (by omega)])
    have hz : ((m.fn : Int) == 40) = false := by simp; omega
    obtain ⟨lb, lo, r0, hlA, hlb, hr0, hlc⟩ := ops_at H1.out.rest.ops.ops hl0
    have he0 := ops_fst H1.out.rest.opsd hr0
    rw [he0] at s5 s6
    have y2 := hlc 2 _ rfl
    have y3 := hlc 3 _ rfl
    rw [← s5, show lo + 0 * 9 + 2 = lo + 2 by omega] at y2
    rw [← s6, show lo + 0 * 9 + 3 = lo + 3 by omega] at y3
    have hZl : ¬ m.Z g lb := H1.out.rest.ops.far hl0 ⟨lb, lo, none⟩ hlA
    clear s5 s6 he0 hlc hr0
    have k0 : (0 : Int) < (m.ln : Int) := by omega
    have KS := hid (fun W2 (hb : Below W1.heap.size W1 W2) => (by
      obtain ⟨q0, q1, q2, q3, q4, q5, q6, q7, q8⟩ := (H1.out.below hb).cell
      have hgo2 := (OpBoxAt.cells (blk_keep HO1.out hb)).2.2.1
      rw [hlA] at q0
      exact ⟨q0, q4, q6, q7, q8, (hb.cell (p := ⟨lb, lo + 2, none⟩) hlb).trans y2, (hb.cell (p := ⟨lb, lo + 3, none⟩) hlb).trans y3, hgo2⟩ :
      W2.cell? ⟨g, 0, none⟩ = some (.slice (some ⟨lb, lo, none⟩) m.ln m.lc) ∧ W2.cell? ⟨g, 4, none⟩ = some (.slice m.oA m.on m.oc) ∧ W2.cell? ⟨g, 6, none⟩ = some (.int .i64 s.back.1) ∧ W2.cell? ⟨g, 7, none⟩ = some (.int .i64 s.back.2) ∧ W2.cell? ⟨g, 8, none⟩ = some (.slice m.fA m.fn m.fc) ∧ W2.cell? ⟨lb, lo + 2, none⟩ = some (.int .i64 (headW l : Int)) ∧ W2.cell? ⟨lb, lo + 3, none⟩ = some (.int .i64 (headH l : Int)) ∧ W2.cell? ⟨go, 2, none⟩ = some (.int .i64 a)))
    have hgo1 : go < W1.heap.size := (Array.getElem?_eq_some_iff.1 HO1.out).1
    have hg1 : g < W1.heap.size := (Array.getElem?_eq_some_iff.1 H1.out.box).1
    have hn1 := own_not H1.out.rest.frames H1.out.box (by decide)
    have hn2 := own_not H1.out.rest.frames HO1.out (by decide)
    have hn3 : (Value.slice m.fA m.fn m.fc).ownBlock ≠ some lb := fun e => hZl (Or.inr (Or.inr (Or.inl e)))
    have KB := hid (fun wa w1 ob (hb : Below W1.heap.size W1 wa) (hg : (wa.alloc ob).grownBy w1 (Value.slice m.fA m.fn m.fc).ownBlock) => (by
      have hX : Below W1.heap.size W1 (wa.alloc ob) := hb.alloc hb.size _
      exact ⟨(hg.block g (Nat.lt_of_lt_of_le hg1 hX.size) (Ne.symm hn1)), (hg.block lb (Nat.lt_of_lt_of_le hlb hX.size) (Ne.symm hn3)), (hg.block go (Nat.lt_of_lt_of_le hgo1 hX.size) (Ne.symm hn2))⟩ :
      w1.heap[g]? = (wa.alloc ob).heap[g]? ∧ w1.heap[lb]? = (wa.alloc ob).heap[lb]? ∧ w1.heap[go]? = (wa.alloc ob).heap[go]?))
    have KG := hid (fun wa w1 ob (hb : Below W1.heap.size W1 wa) (hg : (wa.alloc ob).grownBy w1 (Value.slice m.fA m.fn m.fc).ownBlock) => (by
      have hX : Below W1.heap.size W1 (wa.alloc ob) := hb.alloc hb.size _
      obtain ⟨z1, z2, z3⟩ := KB.out wa w1 ob hb hg
      obtain ⟨q0, q4, q6, q7, q8, qa, qb, qc⟩ := KS.out _ hX
      have f8 := opblk_free (H1.out.below hX).box 8
      exact ⟨(World.cell?_of_block (a := ⟨g, 0, none⟩) z1).trans q0, (World.cell?_of_block (a := ⟨g, 4, none⟩) z1).trans q4, (World.cell?_of_block (a := ⟨g, 6, none⟩) z1).trans q6, (World.cell?_of_block (a := ⟨g, 7, none⟩) z1).trans q7, (World.cell?_of_block (a := ⟨g, 8, none⟩) z1).trans q8, (World.cell?_of_block (a := ⟨lb, lo + 2, none⟩) z2).trans qa, (World.cell?_of_block (a := ⟨lb, lo + 3, none⟩) z2).trans qb, (World.cell?_of_block (a := ⟨go, 2, none⟩) z3).trans qc, (World.frozen?_of_block (a := ⟨g, 8, none⟩) z1).trans f8⟩ :
      w1.cell? ⟨g, 0, none⟩ = some (.slice (some ⟨lb, lo, none⟩) m.ln m.lc) ∧ w1.cell? ⟨g, 4, none⟩ = some (.slice m.oA m.on m.oc) ∧ w1.cell? ⟨g, 6, none⟩ = some (.int .i64 s.back.1) ∧ w1.cell? ⟨g, 7, none⟩ = some (.int .i64 s.back.2) ∧ w1.cell? ⟨g, 8, none⟩ = some (.slice m.fA m.fn m.fc) ∧ w1.cell? ⟨lb, lo + 2, none⟩ = some (.int .i64 (headW l : Int)) ∧ w1.cell? ⟨lb, lo + 3, none⟩ = some (.int .i64 (headH l : Int)) ∧ w1.cell? ⟨go, 2, none⟩ = some (.int .i64 a) ∧ w1.frozen? ⟨g, 8, none⟩ = false))
    have C1 := hid (fun W2 (hb : Below W1.heap.size W1 W2) => seen_any m.oA m.on m.oc m.os (headW l) (headH l) s.back W2 (H1.out.rest.objs.objs.below hb) (dat_fineM (by rw [H1.out.rest.objsd]; exact Hok.out.objs.2)) (by
      have h1 := objs_few (l := dat m.os) (by rw [H1.out.rest.objsd]; exact Hok.out.objs)
      rw [dat_len, H1.out.rest.objs.objs.1] at h1
      omega) s1 s2 s3 s4 Hok.out.back)
    rw [H1.out.rest.objsd] at C1
    have HFr := hid H1.out.rest.frames
    have hB1 : B ≤ W1.heap.size := by omega
    clear hn1 hn2 hn3 hZl KB hlb hgo1 hg1 c2 y2 y3
    go_upto_region 3 with fail
    refine wp_region_held_last (fun W => W.cell? ⟨g, 0, none⟩ = some (.slice (some ⟨lb, lo, none⟩) m.ln m.lc) ∧ W.cell? ⟨g, 4, none⟩ = some (.slice m.oA m.on m.oc) ∧ W.cell? ⟨g, 6, none⟩ = some (.int .i64 s.back.1) ∧ W.cell? ⟨g, 7, none⟩ = some (.int .i64 s.back.2) ∧ W.cell? ⟨g, 8, none⟩ = some (.slice m.fA m.fn m.fc) ∧ W.cell? ⟨lb, lo + 2, none⟩ = some (.int .i64 (headW l : Int)) ∧ W.cell? ⟨lb, lo + 3, none⟩ = some (.int .i64 (headH l : Int)) ∧ W.cell? ⟨go, 2, none⟩ = some (.int .i64 a)) 35 _ rfl (by kernel_rfl) (by kernel_rfl) (KS.out _ (Below.refl _ _).drew) (fun hS => ?_)
    simp only [List.take_succ_cons, List.take_zero]
    refine wpAnyH_take (i := 0) (v := ?v0) rfl (by kernel_rfl) (by kernel_rfl) (by kernel_rfl) (fun _ _ _ h => h) (Or.inl ⟨by rfl, ?hy⟩) hS ?rest
    case hy => intro w hSw; (try dsimp only at hSw); go_simp; with_reducible rfl
    case rest =>
     (try simp only [Act.put, List.setIfInBounds_toArray, List.set_cons_zero, List.set_cons_succ])
     refine wpAnyH_take (i := 1) (v := ?v1) rfl (by kernel_rfl) (by kernel_rfl) (by kernel_rfl) (fun _ _ _ h => h) (Or.inl ⟨by rfl, ?hy⟩) hS ?rest
     case hy => intro w hSw; (try dsimp only at hSw); go_simp; with_reducible rfl
     case rest =>
      (try simp only [Act.put, List.setIfInBounds_toArray, List.set_cons_zero, List.set_cons_succ])
      refine wpAnyH_take (i := 2) (v := ?v2) rfl (by kernel_rfl) (by kernel_rfl) (by kernel_rfl) (fun _ _ _ h => h) (Or.inl ⟨by rfl, ?hy⟩) hS ?rest
      case hy => intro w hSw; (try dsimp only at hSw); go_simp; with_reducible rfl
      case rest =>
       (try simp only [Act.put, List.setIfInBounds_toArray, List.set_cons_zero, List.set_cons_succ])
       refine wpAnyH_take (i := 3) (v := ?v3) rfl (by kernel_rfl) (by kernel_rfl) (by kernel_rfl) (fun _ _ _ h => h) (Or.inl ⟨by rfl, ?hy⟩) hS ?rest
       case hy => intro w hSw; (try dsimp only at hSw); go_simp; with_reducible rfl
       case rest =>
        (try simp only [Act.put, List.setIfInBounds_toArray, List.set_cons_zero, List.set_cons_succ])
        refine wpAnyH_take (i := 4) (v := ?v4) rfl (by kernel_rfl) (by kernel_rfl) (by kernel_rfl) (fun _ _ _ h => h) (Or.inl ⟨by rfl, ?hy⟩) hS ?rest
        case hy => intro w hSw; (try dsimp only at hSw); go_simp; with_reducible rfl
        case rest =>
         (try simp only [Act.put, List.setIfInBounds_toArray, List.set_cons_zero, List.set_cons_succ])
         refine wpAnyH_take (i := 5) (v := ?v5) rfl (by kernel_rfl) (by kernel_rfl) (by kernel_rfl) (fun _ _ _ h => h) (Or.inl ⟨by rfl, ?hy⟩) hS ?rest
         case hy => intro w hSw; (try dsimp only at hSw); go_simp; with_reducible rfl
         case rest =>
          (try simp only [Act.put, List.setIfInBounds_toArray, List.set_cons_zero, List.set_cons_succ])
          refine wpAnyH_take (i := 6) (v := ?v6) rfl (by kernel_rfl) (by kernel_rfl) (by kernel_rfl) (fun _ _ _ h => h) (Or.inl ⟨by rfl, ?hy⟩) hS ?rest
          case hy => intro w hSw; (try dsimp only at hSw); go_simp; with_reducible rfl
          case rest =>
           (try simp only [Act.put, List.setIfInBounds_toArray, List.set_cons_zero, List.set_cons_succ])
           refine wpAnyH_take (i := 7) (v := ?v7) rfl (by kernel_rfl) (by kernel_rfl) (by kernel_rfl) (fun _ _ _ h => h) (Or.inl ⟨by rfl, ?hy⟩) hS ?rest
           case hy => intro w hSw; (try dsimp only at hSw); go_simp; with_reducible rfl
           case rest =>
            (try simp only [Act.put, List.setIfInBounds_toArray, List.set_cons_zero, List.set_cons_succ])
            refine wpAnyH_take (i := 8) (v := ?v8) rfl (by kernel_rfl) (by kernel_rfl) (by kernel_rfl) (fun _ _ _ h => h) (Or.inl ⟨by rfl, ?hy⟩) hS ?rest
            case hy => intro w hSw; (try dsimp only at hSw); go_simp; with_reducible rfl
            case rest =>
             (try simp only [Act.put, List.setIfInBounds_toArray, List.set_cons_zero, List.set_cons_succ])
             refine wpAnyH_take (i := 9) (v := ?v9) rfl (by kernel_rfl) (by kernel_rfl) (by kernel_rfl) (fun _ _ _ h => h) (Or.inl ⟨by rfl, ?hy⟩) hS ?rest
             case hy => intro w hSw; (try dsimp only at hSw); go_simp; with_reducible rfl
             case rest =>
              (try simp only [Act.put, List.setIfInBounds_toArray, List.set_cons_zero, List.set_cons_succ])
              refine wpAnyH_take (i := 10) (v := ?v10) rfl (by kernel_rfl) (by kernel_rfl) (by kernel_rfl) (fun _ _ _ h => h) (Or.inl ⟨by rfl, ?hy⟩) hS ?rest
              case hy => intro w hSw; (try dsimp only at hSw); go_simp; with_reducible rfl
              case rest =>
               (try simp only [Act.put, List.setIfInBounds_toArray, List.set_cons_zero, List.set_cons_succ])
               refine wpAnyH_take (i := 11) (v := ?v11) rfl (by kernel_rfl) (by kernel_rfl) (by kernel_rfl) (fun _ _ _ h => h) (Or.inl ⟨by rfl, ?hy⟩) hS ?rest
               case hy => intro w hSw; (try dsimp only at hSw); go_simp; with_reducible rfl
               case rest =>
                (try simp only [Act.put, List.setIfInBounds_toArray, List.set_cons_zero, List.set_cons_succ])
                refine wpAnyH_take (i := 12) (v := ?v12) rfl (by kernel_rfl) (by kernel_rfl) (by kernel_rfl) (fun _ _ _ h => h) (Or.inl ⟨by rfl, ?hy⟩) hS ?rest
                case hy => intro w hSw; (try dsimp only at hSw); go_simp; with_reducible rfl
                case rest =>
                 (try simp only [Act.put, List.setIfInBounds_toArray, List.set_cons_zero, List.set_cons_succ])
                 refine wpAnyH_take (i := 13) (v := ?v13) rfl (by kernel_rfl) (by kernel_rfl) (by kernel_rfl) (fun _ _ _ h => h) (Or.inl ⟨by rfl, ?hy⟩) hS ?rest
                 case hy => intro w hSw; (try dsimp only at hSw); go_simp; with_reducible rfl
                 case rest =>
                  (try simp only [Act.put, List.setIfInBounds_toArray, List.set_cons_zero, List.set_cons_succ])
                  refine wpAnyH_take (i := 14) (v := ?v14) rfl (by kernel_rfl) (by kernel_rfl) (by kernel_rfl) (fun _ _ _ h => h) (Or.inl ⟨by rfl, ?hy⟩) hS ?rest
                  case hy => intro w hSw; (try dsimp only at hSw); go_simp; with_reducible rfl
                  case rest =>
                   (try simp only [Act.put, List.setIfInBounds_toArray, List.set_cons_zero, List.set_cons_succ])
                   refine wpAnyH_take (i := 15) (v := ?v15) rfl (by kernel_rfl) (by kernel_rfl) (by kernel_rfl) (fun _ _ _ h => h) (Or.inl ⟨by rfl, ?hy⟩) hS ?rest
                   case hy => intro w hSw; (try dsimp only at hSw); go_simp; with_reducible rfl
                   case rest =>
                    (try simp only [Act.put, List.setIfInBounds_toArray, List.set_cons_zero, List.set_cons_succ])
                    refine wpAnyH_take (i := 16) (v := ?v16) rfl (by kernel_rfl) (by kernel_rfl) (by kernel_rfl) (fun _ _ _ h => h) (Or.inl ⟨by rfl, ?hy⟩) hS ?rest
                    case hy => intro w hSw; (try dsimp only at hSw); go_simp; with_reducible rfl
                    case rest =>
                     (try simp only [Act.put, List.setIfInBounds_toArray, List.set_cons_zero, List.set_cons_succ])
                     refine wpAnyH_take (i := 17) (v := ?v17) rfl (by kernel_rfl) (by kernel_rfl) (by kernel_rfl) (fun _ _ _ h => h) (Or.inl ⟨by rfl, ?hy⟩) hS ?rest
                     case hy => intro w hSw; (try dsimp only at hSw); go_simp; with_reducible rfl
                     case rest =>
                      (try simp only [Act.put, List.setIfInBounds_toArray, List.set_cons_zero, List.set_cons_succ])
                      refine wpAnyH_take (i := 18) (v := ?v18) rfl (by kernel_rfl) (by kernel_rfl) (by kernel_rfl) (fun _ _ _ h => h) (Or.inl ⟨by rfl, ?hy⟩) hS ?rest
                      case hy => intro w hSw; (try dsimp only at hSw); go_simp; with_reducible rfl
                      case rest =>
                       (try simp only [Act.put, List.setIfInBounds_toArray, List.set_cons_zero, List.set_cons_succ])
                       refine wpAnyH_take (i := 19) (v := ?v19) rfl (by kernel_rfl) (by kernel_rfl) (by kernel_rfl) (fun _ _ _ h => h) (Or.inl ⟨by rfl, ?hy⟩) hS ?rest
                       case hy => intro w hSw; (try dsimp only at hSw); go_simp; with_reducible rfl
                       case rest =>
                        (try simp only [Act.put, List.setIfInBounds_toArray, List.set_cons_zero, List.set_cons_succ])
                        refine wpAnyH_take (i := 20) (v := ?v20) rfl (by kernel_rfl) (by kernel_rfl) (by kernel_rfl) (fun _ _ _ h => h) (Or.inl ⟨by rfl, ?hy⟩) hS ?rest
                        case hy => intro w hSw; (try dsimp only at hSw); go_simp; with_reducible rfl
                        case rest =>
                         (try simp only [Act.put, List.setIfInBounds_toArray, List.set_cons_zero, List.set_cons_succ])
                         refine wpAnyH_take (i := 21) (v := ?v21) rfl (by kernel_rfl) (by kernel_rfl) (by kernel_rfl) (fun _ _ _ h => h) (Or.inl ⟨by rfl, ?hy⟩) hS ?rest
                         case hy => intro w hSw; (try dsimp only at hSw); go_simp; with_reducible rfl
                         case rest =>
                          (try simp only [Act.put, List.setIfInBounds_toArray, List.set_cons_zero, List.set_cons_succ])
                          refine wpAnyH_take (i := 22) (v := ?v22) rfl (by kernel_rfl) (by kernel_rfl) (by kernel_rfl) (fun _ _ _ h => h) (Or.inl ⟨by rfl, ?hy⟩) hS ?rest
                          case hy => intro w hSw; (try dsimp only at hSw); go_simp; with_reducible rfl
                          case rest =>
                           (try simp only [Act.put, List.setIfInBounds_toArray, List.set_cons_zero, List.set_cons_succ])
                           refine wpAnyH_take (i := 23) (v := ?v23) rfl (by kernel_rfl) (by kernel_rfl) (by kernel_rfl) (fun _ _ _ h => h) (Or.inl ⟨by rfl, ?hy⟩) hS ?rest
                           case hy => intro w hSw; (try dsimp only at hSw); go_simp; with_reducible rfl
                           case rest =>
                            (try simp only [Act.put, List.setIfInBounds_toArray, List.set_cons_zero, List.set_cons_succ])
                            refine wpAnyH_take (i := 24) (v := ?v24) rfl (by kernel_rfl) (by kernel_rfl) (by kernel_rfl) (fun _ _ _ h => h) (Or.inl ⟨by rfl, ?hy⟩) hS ?rest
                            case hy => intro w hSw; (try dsimp only at hSw); go_simp; with_reducible rfl
                            case rest =>
                             (try simp only [Act.put, List.setIfInBounds_toArray, List.set_cons_zero, List.set_cons_succ])
                             refine wpAnyH_take (i := 25) (v := ?v25) rfl (by kernel_rfl) (by kernel_rfl) (by kernel_rfl) (fun _ _ _ h => h) (Or.inl ⟨by rfl, ?hy⟩) hS ?rest
                             case hy => intro w hSw; (try dsimp only at hSw); go_simp; with_reducible rfl
                             case rest =>
                              (try simp only [Act.put, List.setIfInBounds_toArray, List.set_cons_zero, List.set_cons_succ])
                              refine wpAnyH_take (i := 26) (v := ?v26) rfl (by kernel_rfl) (by kernel_rfl) (by kernel_rfl) (fun _ _ _ h => h) (Or.inl ⟨by rfl, ?hy⟩) hS ?rest
                              case hy => intro w hSw; (try dsimp only at hSw); go_simp; with_reducible rfl
                              case rest =>
                               (try simp only [Act.put, List.setIfInBounds_toArray, List.set_cons_zero, List.set_cons_succ])
                               refine wpAnyH_take (i := 28) (v := ?v28) rfl (by kernel_rfl) (by kernel_rfl) (by kernel_rfl) (fun _ _ _ h => h) (Or.inl ⟨by rfl, ?hy⟩) hS ?rest
                               case hy => intro w hSw; (try dsimp only at hSw); go_simp; with_reducible rfl
                               case rest =>
                                (try simp only [Act.put, List.setIfInBounds_toArray, List.set_cons_zero, List.set_cons_succ])
                                refine wpAnyH_take (i := 29) (v := ?v29) rfl (by kernel_rfl) (by kernel_rfl) (by kernel_rfl) (fun _ _ _ h => h) (Or.inl ⟨by rfl, ?hy⟩) hS ?rest
                                case hy => intro w hSw; (try dsimp only at hSw); go_simp; with_reducible rfl
                                case rest =>
                                 (try simp only [Act.put, List.setIfInBounds_toArray, List.set_cons_zero, List.set_cons_succ])
                                 refine wpAnyH_ready (rs := [27]) (by kernel_rfl) (by simp) (AllReadyH.cons rfl (fun K hK => ?_) AllReadyH.nil)
                                 go_simp
                                 go_at_call 56
                                 refine (C1.out _ (Below.refl _ _).drew).mono ?_
                                 rintro e wa ⟨pA, pc, rfl, hpx, hnew, hbw⟩
                                 have HBW : Below W1.heap.size W1 wa := bnext (Below.refl _ _).drew hbw
                                 refine hK.out _ _ (KS.out _ HBW) (fun hS => ?_)
                                 (try simp only [Act.put, List.setIfInBounds_toArray, List.set_cons_zero, List.set_cons_succ])
                                 refine wpAnyH_take (i := 30) (v := ?v30) rfl (by kernel_rfl) (by kernel_rfl) (by kernel_rfl) (fun _ _ _ h => h) (Or.inl ⟨by rfl, ?hy⟩) hS ?rest
                                 case hy => intro w hSw; (try dsimp only at hSw); go_simp; with_reducible rfl
                                 case rest =>
                                  (try simp only [Act.put, List.setIfInBounds_toArray, List.set_cons_zero, List.set_cons_succ])
                                  refine wpAnyH_ready (rs := [31]) (by kernel_rfl) (by simp) (AllReadyH.cons rfl (fun K hK => ?_) AllReadyH.nil)
                                  go_simp
                                  have hS2 := KS.out _ (HBW.alloc HBW.size (.cells #[.int .i64 (seenP s.objs (headW l) (headH l) s.back).w, .int .i64 (seenP s.objs (headW l) (headH l) s.back).h, .slice pA (seenP s.objs (headW l) (headH l) s.back).p.length pc, .int .i64 a] 60))
                                  refine hK.out _ _ hS2 (fun hS => ?_)
                                  (try simp only [Act.put, List.setIfInBounds_toArray, List.set_cons_zero, List.set_cons_succ])
                                  refine wpAnyH_ready (rs := [32]) (by kernel_rfl) (by simp) (AllReadyH.cons rfl (fun K hK => ?_) AllReadyH.nil)
                                  have HO := own_keep HFr.out (HBW.alloc HBW.size (.cells #[.int .i64 (seenP s.objs (headW l) (headH l) s.back).w, .int .i64 (seenP s.objs (headW l) (headH l) s.back).h, .slice pA (seenP s.objs (headW l) (headH l) s.back).p.length pc, .int .i64 a] 60))
                                  refine step_append_lies _ (by rfl) _ _ _ (by rfl) B 60 i0 _ 4 48 Try.underlying25 hi hz0 hz1 hz2 rfl (by decide) _ _ _ (by rfl) HO ⟨_, 0, none⟩ 1 1 [.int .i64 (seenP s.objs (headW l) (headH l) s.back).w, .int .i64 (seenP s.objs (headW l) (headH l) s.back).h, .slice pA (seenP s.objs (headW l) (headH l) s.back).p.length pc, .int .i64 a] (by rfl) rfl (new_cells _ _ _) (by intro u hu; simp at hu; rcases hu with rfl | rfl | rfl | rfl <;> rfl) (by decide) (by unfold maxLen; omega) (by omega) (by have h1 := HBW.size; simp; omega) _ rfl ?_
                                  intro gg cap w1 hown1 hgrow hat hlt1
                                  obtain ⟨n0, n1, n2, n3, n4, n5, n6, n7, n8⟩ := KG.out _ _ _ HBW hgrow
                                  refine hK.out _ _ ⟨n0, n1, n2, n3, n4, n5, n6, n7⟩ (fun hS => ?_)
                                  (try simp only [Act.put, List.setIfInBounds_toArray, List.set_cons_zero, List.set_cons_succ])
                                  refine wpAnyH_take (i := 33) (v := ?v33) rfl (by kernel_rfl) (by kernel_rfl) (by kernel_rfl) (fun _ _ _ h => h) (Or.inl ⟨by rfl, ?hy⟩) hS ?rest
                                  case hy => intro w hSw; (try dsimp only at hSw); go_simp; with_reducible rfl
                                  case rest =>
                                   (try simp only [Act.put, List.setIfInBounds_toArray, List.set_cons_zero, List.set_cons_succ])
                                   refine wpAnyH_take (i := 34) (v := ?v34) rfl (by kernel_rfl) (by kernel_rfl) (by kernel_rfl) (fun _ _ _ h => h) (Or.inl ⟨by rfl, ?hy⟩) hS ?rest
                                   case hy => intro w hSw; (try dsimp only at hSw); go_simp; with_reducible rfl
                                   case rest =>
                                    (try simp only [Act.put, List.setIfInBounds_toArray, List.set_cons_zero, List.set_cons_succ])
                                    refine wpAnyH_done (by kernel_rfl) ?_ _
                                    have hBw : Below B W w1 := below_own (hBB1.trans ((HBW.alloc HBW.size _).mono hB1)) hgrow (by have h1 := HBW.size; simp; omega) (fun b e => (HO.lt b e).1)
                                    have hdone := wait_done (l := l) (s := s) (a := a) H1.out HBW hpx hnew hgrow hown1 hat
                                    clear KS KG C1 HO hgrow hown1 hat n0 n1 n2 n3 n5 n6 n7 hS hS2 hK K
                                    unfold LastQ
                                    go_wp2_with fail
                                    go_ret
                                    rw [HV.out]
                                    exact ⟨rfl, ⟨_, hdone.choose_spec.1, hdone.choose_spec.2.after HB0.out⟩, hBw.setCell (by show B ≤ g; exact hBg) _⟩
theorem info_opM : (Try.prog.info? 51).map (fun i => (i.zero, i.size, i.bytes)) = some (some (.agg #[.int .i64 0, .int .i64 0, .int .i64 0, .int .i64 0, .int .i64 0, .int .i64 0, .int .i64 0, .int .i64 0, .slice none 0 0]), 9, 88) := by kernel_rfl
theorem op_lenM (rs : List (FAt FOp)) : (rs.flatMap opCells).length = rs.length * 9 := flat_len (enc := opCells) (fun _ => rfl) rs
theorem fr_lenM (rs : List (FAt FFrame)) : (rs.flatMap frCells).length = rs.length * 4 := flat_len (enc := frCells) (fun _ => rfl) rs
theorem opCells_oneM {rs : List (FAt FOp)} {u : Value} (h : u ∈ rs.flatMap opCells) : u.oneCell' = true := by
  obtain ⟨r, -, h⟩ := List.mem_flatMap.1 h
  simp [opCells] at h
  rcases h with rfl | rfl | rfl | rfl | rfl | rfl | rfl | rfl | rfl <;> rfl
theorem frCells_oneM {rs : List (FAt FFrame)} {u : Value} (h : u ∈ rs.flatMap frCells) : u.oneCell' = true := by
  obtain ⟨r, -, h⟩ := List.mem_flatMap.1 h
  simp [frCells] at h
  rcases h with rfl | rfl | rfl | rfl <;> rfl
def OwnOpsM (rs : List (FAt FOp)) (B : Nat) (w : World) (v : Value) : Prop := w.ownsRow B 51 9 v rs.length (rs.flatMap opCells)
def RetOpsOwnM (rs : List (FAt FOp)) (w : World) (e : Ending) (w' : World) : Prop := ∃ v, e = .returned v ∧ OwnOpsM rs w.heap.size w' v ∧ Below w.heap.size w w'
theorem OwnOpsM.nil (B : Nat) (w : World) : OwnOpsM [] B w (.slice none 0 0) := World.ownsRow_nil _ _ _ _
def OwnFrsM (rs : List (FAt FFrame)) (B : Nat) (w : World) (v : Value) : Prop := w.ownsRow B 60 4 v rs.length (rs.flatMap frCells)
def RetFrsOwnM (rs : List (FAt FFrame)) (w : World) (e : Ending) (w' : World) : Prop := ∃ v, e = .returned v ∧ OwnFrsM rs w.heap.size w' v ∧ Below w.heap.size w w'
theorem OwnFrsM.nil (B : Nat) (w : World) : OwnFrsM [] B w (.slice none 0 0) := World.ownsRow_nil _ _ _ _
set_option maxRecDepth 100000 in
set_option maxHeartbeats 800000 in
theorem cloneop_any (A : Option Addr) (n c : Nat) (rs : List (FAt FOp)) (w : World) (hl : Ops w A n rs) (hn : n ≤ 1000000) :
    Calls Try.prog 37 #[.slice A n c] w (RetOpsOwnM rs w) := by
  have Hl := hid hl.1
  obtain ⟨i0, hi, hz0, hz1, hz2⟩ := info_parts info_opM
  have hnil := fun W => Lib.run_eql_slice_nil (P := Try.prog) W 22 51 A n c 0 0 Try.underlying22
  cases A with
  | none =>
    have h0 : n = 0 := by
      rcases Nat.eq_zero_or_pos n with h0 | h0
      · exact h0
      · obtain ⟨_, _, e, _⟩ := hl.2.1.2 h0; cases e
    subst h0
    have hnil : rs = [] := List.eq_nil_of_length_eq_zero Hl.out
    subst hnil
    clear hl
    go_enter Try.func37, Try.ntmps37
    go_wp2
    go_ret
    exact ⟨_, rfl, OwnOpsM.nil _ _, Below.refl _ _⟩
  | some a =>
    have hnews : ∀ j u, (rs.flatMap opCells)[j]? = some u → w.cell? (a.add j) = some u := by
      intro j u hu
      have hj := (List.getElem?_eq_some_iff.1 hu).1
      rw [op_lenM, Hl.out] at hj
      obtain ⟨b, off, e, hb, hc⟩ := hl.2.1.2 (by omega)
      injection e with e
      subst e
      rw [show (⟨b, off, none⟩ : Addr).add j = ⟨b, off + j, none⟩ from by
        unfold Addr.add
        by_cases h : j = 0
        · subst h; simp
        · rw [if_neg h]]
      exact hc j u hu
    have hblk : n * 9 = (rs.flatMap opCells).length := by rw [op_lenM, Hl.out]
    have hown0 := World.ownsRow_lit (base := w.heap.size) (e := 51) (size := 9) w #[] 0 (Nat.le_refl _) (by simp [maxLen]) rfl
    have Hnews := hid hnews
    have Hblk := hid hblk
    clear hnews hblk
    go_enter Try.func37, Try.ntmps37
    go_wp2_with (at_builtin; refine wpList_append_own _ rfl _ _ 22 rfl w.heap.size 51 i0 _ 9 88 Try.underlying22 hi hz0 hz1 hz2 rfl (by decide) _ _ _ rfl hown0 a n c (rs.flatMap opCells) rfl Hblk.out.symm ?c1 ?c2 ?c3 ?c4 ?c5 ?_)
    case c1 =>
      intro j u hu
      have h := Hnews.out j u hu
      have hlt := World.block_lt_of_cell? w _ h
      exact (((Below.refl w.heap.size w).alloc (Nat.le_refl _) (.cells #[] 51)).cell (p := a.add j) hlt).trans h
    case c2 => exact fun u q hq hu => opCells_oneM (rs := rs) (List.mem_flatMap.2 ⟨q, hq, hu⟩)
    case c3 => unfold maxLen; omega
    case c4 => omega
    intro v' w1 hown' hgrow _
    have hbel1 : Below w.heap.size w w1 := (((Below.refl w.heap.size w).alloc (Nat.le_refl _) (.cells #[] 51))).grown hgrow (by simp) (fun g hg => (hown0.lt g hg).1)
    have HO : w1.ownsRow w.heap.size 51 9 v' n (rs.flatMap opCells) := by simpa using hown'
    have HR : Hid (OwnOpsM rs w.heap.size w1 v') := by unfold OwnOpsM; rw [Hl.out]; exact HO
    clear hown' hgrow HO
    go_wp2_with fail
    go_ret
    exact ⟨_, rfl, HR.out, hbel1⟩
set_option maxRecDepth 100000 in
set_option maxHeartbeats 800000 in
theorem clonefr_any (A : Option Addr) (n c : Nat) (rs : List (FAt FFrame)) (w : World) (hl : Frames w A n rs) (hn : n ≤ 1000000) :
    Calls Try.prog 48 #[.slice A n c] w (RetFrsOwnM rs w) := by
  have Hl := hid hl.1
  obtain ⟨i0, hi, hz0, hz1, hz2⟩ := info_parts info_frameM
  have hnil := fun W => Lib.run_eql_slice_nil (P := Try.prog) W 25 60 A n c 0 0 Try.underlying25
  cases A with
  | none =>
    have h0 : n = 0 := by
      rcases Nat.eq_zero_or_pos n with h0 | h0
      · exact h0
      · obtain ⟨_, _, e, _⟩ := hl.2.1.2 h0; cases e
    subst h0
    have hnil : rs = [] := List.eq_nil_of_length_eq_zero Hl.out
    subst hnil
    clear hl
    go_enter Try.func48, Try.ntmps48
    go_wp2
    go_ret
    exact ⟨_, rfl, OwnFrsM.nil _ _, Below.refl _ _⟩
  | some a =>
    have hnews : ∀ j u, (rs.flatMap frCells)[j]? = some u → w.cell? (a.add j) = some u := by
      intro j u hu
      have hj := (List.getElem?_eq_some_iff.1 hu).1
      rw [fr_lenM, Hl.out] at hj
      obtain ⟨b, off, e, hb, hc⟩ := hl.2.1.2 (by omega)
      injection e with e
      subst e
      rw [show (⟨b, off, none⟩ : Addr).add j = ⟨b, off + j, none⟩ from by
        unfold Addr.add
        by_cases h : j = 0
        · subst h; simp
        · rw [if_neg h]]
      exact hc j u hu
    have hblk : n * 4 = (rs.flatMap frCells).length := by rw [fr_lenM, Hl.out]
    have hown0 := World.ownsRow_lit (base := w.heap.size) (e := 60) (size := 4) w #[] 0 (Nat.le_refl _) (by simp [maxLen]) rfl
    have Hnews := hid hnews
    have Hblk := hid hblk
    clear hnews hblk
    go_enter Try.func48, Try.ntmps48
    go_wp2_with (at_builtin; refine wpList_append_own _ rfl _ _ 25 rfl w.heap.size 60 i0 _ 4 48 Try.underlying25 hi hz0 hz1 hz2 rfl (by decide) _ _ _ rfl hown0 a n c (rs.flatMap frCells) rfl Hblk.out.symm ?c1 ?c2 ?c3 ?c4 ?c5 ?_)
    case c1 =>
      intro j u hu
      have h := Hnews.out j u hu
      have hlt := World.block_lt_of_cell? w _ h
      exact (((Below.refl w.heap.size w).alloc (Nat.le_refl _) (.cells #[] 60)).cell (p := a.add j) hlt).trans h
    case c2 => exact fun u q hq hu => frCells_oneM (rs := rs) (List.mem_flatMap.2 ⟨q, hq, hu⟩)
    case c3 => unfold maxLen; omega
    case c4 => omega
    intro v' w1 hown' hgrow _
    have hbel1 : Below w.heap.size w w1 := (((Below.refl w.heap.size w).alloc (Nat.le_refl _) (.cells #[] 60))).grown hgrow (by simp) (fun g hg => (hown0.lt g hg).1)
    have HO : w1.ownsRow w.heap.size 60 4 v' n (rs.flatMap frCells) := by simpa using hown'
    have HR : Hid (OwnFrsM rs w.heap.size w1 v') := by unfold OwnFrsM; rw [Hl.out]; exact HO
    clear hown' hgrow HO
    go_wp2_with fail
    go_ret
    exact ⟨_, rfl, HR.out, hbel1⟩
/-! ## Done, At, Objects, Frames -/
set_option maxRecDepth 100000 in
set_option maxHeartbeats 4000000 in
theorem mdone_any (l : List FOp) (s : MSt) (B g : Nat) (m : MSlots) (W : World) (h : MachW l s B g m W) (hat : s.at_ < l.length) :
    Calls Try.prog 25 #[.pointer (some ⟨g, 0, none⟩)] W (Ret (.bool ((opAt l s.at_).kind == 16)) W) := by
  have hlen : l.length = m.ln := by
    have h1 := h.rest.ops.ops.1
    have h2 := congrArg List.length h.rest.opsd
    rw [datO_len] at h2
    omega
  obtain ⟨lb, lo, r0, hlA, hlb, hr0, hlc⟩ := ops_at h.rest.ops.ops (k := s.at_) (by omega)
  have he0 := ops_fst h.rest.opsd hr0
  have y0 := hlc 0 _ rfl
  rw [← he0, Nat.add_zero] at y0
  obtain ⟨x0, -, x2, -⟩ := h.cell
  rw [hlA] at x0
  have k0 : (0 : Int) ≤ (s.at_ : Int) := by omega
  have k1 : (s.at_ : Int) < (m.ln : Int) := by omega
  obtain ⟨kk, hkk⟩ : ∃ kk, (opAt l s.at_).kind = kk := ⟨_, rfl⟩
  rw [hkk] at y0 ⊢
  clear hlc hr0 he0 hkk h hat
  go_enter Try.func25, Try.ntmps25
  go_upto_region 1 with fail
  go_quiet (fail)
  go_wp2_with fail
  go_ret
  exact ⟨rfl, by first | exact below_drewN (Below.refl _ _) _ | exact (Below.refl _ _).drew | exact Below.refl _ _⟩
theorem mat_any (l : List FOp) (s : MSt) (B g : Nat) (m : MSlots) (W : World) (h : MachW l s B g m W) :
    Calls Try.prog 24 #[.pointer (some ⟨g, 0, none⟩)] W (Ret (.int .i64 (s.at_ : Int)) W) := by
  obtain ⟨-, -, x2, -⟩ := h.cell
  clear h
  go_enter Try.func24, Try.ntmps24
  go_wp2_with fail
  go_ret
  exact ⟨rfl, Below.refl _ _⟩
/-- the objects, in a slice of their own -/
def RetObjsM (P : List FObj) (Z : Nat → Prop) (w : World) (e : Ending) (w' : World) : Prop := ∃ A n c rs, e = .returned (.slice A n c) ∧ FObjs Z w' A n rs ∧ dat rs = P ∧ Below w.heap.size w w'
def RetFrsM (P : List FFrame) (w : World) (e : Ending) (w' : World) : Prop := ∃ A n c rs, e = .returned (.slice A n c) ∧ Frames w' A n rs ∧ n ≤ c ∧ c ≤ maxLen ∧ frD rs = P ∧ Below w.heap.size w w'
set_option maxRecDepth 100000 in
set_option maxHeartbeats 4000000 in
theorem mobjs_any (l : List FOp) (s : MSt) (B g : Nat) (m : MSlots) (W : World) (h : MachW l s B g m W) (hn : s.objs.length ≤ 1000) :
    Calls Try.prog 27 #[.pointer (some ⟨g, 0, none⟩)] W (RetObjsM s.objs (m.Z g) W) := by
  obtain ⟨-, -, -, -, x4, -⟩ := h.cell
  have hln : m.on ≤ 1000000 := by
    have h1 := h.rest.objs.objs.1
    have h2 := congrArg List.length h.rest.objsd
    rw [dat_len] at h2
    omega
  have C := cloneob_any m.oA m.on m.oc m.os W h.rest.objs.objs hln
  have HO := hid h.rest.objs
  have HD := hid h.rest.objsd
  have HZ := hid (h.rest.Zlt (Array.getElem?_eq_some_iff.1 h.box).1)
  clear h
  go_enter Try.func27, Try.ntmps27
  go_wp2_with fail
  refine C.mono ?_
  rintro e w1 ⟨v, rfl, hown, hb⟩
  obtain ⟨A', c', rfl, hA, -⟩ := own_slice hown
  have HR := hid hown
  have HF := hid (FarR.new (n := m.os.length) (fun x hx => (hA x hx).1) HZ.out)
  clear hown hA
  go_wp2_with fail
  go_ret
  exact ⟨A', m.os.length, c', m.os, rfl, ⟨⟨rfl, Row.of_own HR.out, fun r hr => (HO.out.objs.2.2 r hr).below hb⟩, HF.out, HO.out.pics⟩, HD.out, hb⟩
set_option maxRecDepth 100000 in
set_option maxHeartbeats 4000000 in
theorem mframes_any (l : List FOp) (s : MSt) (B g : Nat) (m : MSlots) (W : World) (h : MachW l s B g m W) (hn : s.frames.length ≤ 1000) :
    Calls Try.prog 28 #[.pointer (some ⟨g, 0, none⟩)] W (RetFrsM s.frames W) := by
  obtain ⟨-, -, -, -, -, -, -, -, x8⟩ := h.cell
  have hln : m.fn ≤ 1000000 := by
    have h1 := h.rest.framesn
    have h2 := congrArg List.length h.rest.framesd
    unfold frD at h2
    rw [List.length_map] at h2
    omega
  have HF : Frames W m.fA m.fn m.frs := ⟨h.rest.framesn, Row.of_own h.rest.frames, h.rest.pics.pixs⟩
  have C := clonefr_any m.fA m.fn m.fc m.frs W HF hln
  have HO := hid HF
  have HD := hid h.rest.framesd
  clear h HF
  go_enter Try.func28, Try.ntmps28
  go_wp2_with fail
  refine C.mono ?_
  rintro e w1 ⟨v, rfl, hown, hb⟩
  obtain ⟨A', c', rfl, -, hc⟩ := own_slice hown
  have HR := hid hown
  clear hown
  go_wp2_with fail
  go_ret
  exact ⟨A', m.frs.length, c', m.frs, rfl, ⟨rfl, Row.of_own HR.out, fun r hr => (HO.out.2.2 r hr).below hb⟩, hc.1, hc.2, HD.out, hb⟩
/-! ## New -/
theorem own_lowerM {w : World} {b b' e size n : Nat} {v : Value} {xs : List Value} (h : w.ownsRow b e size v n xs) (hb : b' ≤ b) : w.ownsRow b' e size v n xs := by
  obtain ⟨h1, h2⟩ := h
  refine ⟨h1, ?_⟩
  rcases h2 with h2 | ⟨g, cap, cur, hv, hg, r⟩
  · exact Or.inl h2
  · exact Or.inr ⟨g, cap, cur, hv, Nat.le_trans hb hg, r⟩
theorem ops_low {w : World} {A : Option Addr} {n : Nat} {rs : List (FAt FOp)} (h : Ops w A n rs) {Z : Nat → Prop} (hz : ∀ b, Z b → w.heap.size ≤ b) : ∀ r ∈ rs, FarR Z r.A r.n := fun r hr hn a ha hb => by
  have := row_block (h.2.2 r hr).2 hn ha
  have := hz _ hb
  omega
theorem mach_new {w W1 : World} {l : List FOp} {g : Nat} {v : Value} {rs : List (FAt FOp)} (hl : datO rs = l) (hrs : ∀ r ∈ rs, r.n ≤ 100) (hpix : ∀ r ∈ rs, Pixs w r.A r.n r.x.pic.p) (hown : OwnOpsM rs w.heap.size W1 v) (hb : Below w.heap.size w W1) {b mn : Nat} (hm : W1.ownsMap Try.prog 3 (plainElem (H := Unit) Try.prog 3) b mn (closeD l l.length)) (hmn : mn ≤ 1000) (hbb : w.heap.size ≤ b) (hg : g = W1.heap.size) :
    ∃ m, MachW l m0 w.heap.size g m (W1.alloc (.cells #[v, .map (some b), .int .i64 0, .slice none 0 0, .slice none 0 0, .slice none 0 0, .int .i64 0, .int .i64 0, .slice none 0 0] 75)) := by
  subst hg
  obtain ⟨A', c', rfl, hA, -⟩ := own_slice hown
  have hal : Below W1.heap.size W1 (W1.alloc (.cells #[.slice A' rs.length c', .map (some b), .int .i64 0, .slice none 0 0, .slice none 0 0, .slice none 0 0, .int .i64 0, .int .i64 0, .slice none 0 0] 75)) := (Below.refl _ _).alloc (Nat.le_refl _) _
  have hZ : ∀ q, MSlots.Z ⟨A', rs.length, c', rs, b, mn, none, 0, 0, none, 0, 0, [], none, 0, 0, [], none, 0, 0, [], fun _ => False⟩ W1.heap.size q → q = W1.heap.size := by
    rintro q (e | e | e | e)
    · exact e
    · simp [Value.ownBlock] at e
    · simp [Value.ownBlock] at e
    · exact e.elim
  have hops : Ops W1 A' rs.length rs := ⟨rfl, Row.of_own hown, fun r hr => (hpix r hr).below hb⟩
  have hno : ∀ (W : World) (Z : Nat → Prop), FObjs Z W none 0 [] := fun W Z => ⟨⟨rfl, Row.none_ _ _ _, fun r hr => by cases hr⟩, fun h => by omega, fun r hr => by cases hr⟩
  refine ⟨⟨A', rs.length, c', rs, b, mn, none, 0, 0, none, 0, 0, [], none, 0, 0, [], none, 0, 0, [], fun _ => False⟩, heap_alloc_new W1 _, hb.size, ?_⟩
  refine ⟨⟨hops.below hal, fun hn a ha hq => ?_, fun r hr hn a ha hq => ?_⟩, hl, hrs, ownsMap_keep hm hal, hmn, hbb, World.ownsRow_nil _ _ _ _, rfl, hno _ _, rfl, hno _ _, rfl, World.ownsRow_nil _ _ _ _, rfl, rfl, ⟨fun r hr => (by cases hr), fun r hr => (by cases hr)⟩, fun b hb => hb.elim, fun b hb => hb.elim⟩
  · have h1 := hZ _ hq
    have h2 := (hA a ha).2.1
    omega
  · have h1 := hZ _ hq
    have h2 := row_block (hops.2.2 r hr).2 hn ha
    omega
def RetNewM (l : List FOp) (w : World) (e : Ending) (w' : World) : Prop := ∃ g m, e = .returned (.tuple #[.pointer (some ⟨g, 0, none⟩), .nilIface]) ∧ MachW l m0 w.heap.size g m w' ∧ Below w.heap.size w w'
set_option maxRecDepth 100000 in
set_option maxHeartbeats 4000000 in
theorem mnew_bad (A : Option Addr) (n c : Nat) (rs : List (FAt FOp)) (w : World) (h : Ops w A n rs) (hs : ∀ r ∈ rs, r.n ≤ 100) (hn : n ≤ 1000000) (hf : bookFault (datO rs) ≠ 0) :
    Calls Try.prog 20 #[.slice A n c] w (Ret (.tuple #[.pointer none, errV (bookFault (datO rs))]) w) := by
  have C := bookcheck_any A n c rs w h hs hn
  obtain ⟨f, hF⟩ : ∃ f, bookFault (datO rs) = f := ⟨_, rfl⟩
  rw [hF] at C hf ⊢
  obtain ⟨f, rfl⟩ : ∃ f0, f = f0 + 1 := ⟨f - 1, by omega⟩
  clear h hF
  go_enter Try.func20, Try.ntmps20
  go_wp2_with fail
  refine C.mono ?_
  rintro e w1 ⟨rfl, hb⟩
  rw [errV_pos (by omega)]
  go_wp2_with fail
  go_ret2
  exact ⟨rfl, hb⟩
set_option maxRecDepth 100000 in
set_option maxHeartbeats 4000000 in
theorem mnew_ok (A : Option Addr) (n c : Nat) (rs : List (FAt FOp)) (w : World) (h : Ops w A n rs) (hs : ∀ r ∈ rs, r.n ≤ 100) (hn : n ≤ 1000000) (hf : BookFine (datO rs)) :
    Calls Try.prog 20 #[.slice A n c] w (RetNewM (datO rs) w) := by
  have C := bookcheck_any A n c rs w h hs hn
  have H := hid h
  have HS := hid hs
  have HF := hid hf
  rw [book_of hf] at C
  clear h hf hs
  go_enter Try.func20, Try.ntmps20
  go_wp2_with fail
  refine C.mono ?_
  rintro e w1 ⟨rfl, hb⟩
  rw [show errV 0 = .nilIface from rfl]
  go_wp2_with fail
  refine (cloneop_any A n c rs w1 (H.out.below hb) hn).mono ?_
  rintro e w2 ⟨v, rfl, hown, hb2⟩
  have HO := hid hown
  have hB2 := bnext hb hb2
  obtain ⟨A', c', rfl, -, -⟩ := own_slice hown
  clear hown
  go_wp2_with fail
  refine (bookclose_any A n c rs w2 (H.out.below hB2) HF.out).mono ?_
  rintro e w3 ⟨b, mn, rfl, hm, hmn, hbb, hb3⟩
  have HM := hid hm
  have hB3 := bnext hB2 hb3
  clear hm
  have HN := mach_new rfl HS.out H.out.2.2 (own_lowerM (own_keep HO.out hb3) hb.size) (hB2.trans (hb3.mono hB2.size)) HM.out hmn (Nat.le_trans hB2.size hbb) rfl
  go_wp2_with fail
  go_ret2
  obtain ⟨m, hm⟩ := HN
  exact ⟨_, m, rfl, hm, hB3.alloc hB3.size _⟩
end Fb
namespace Fb
open Go Go.Proofs Go.RowKit Go.Sort
attribute [local go_sem ↓] Go.wp_at_zero Go.wp_at_succ
theorem opbox_nine {w' : World} {g n cp : Nat} {k i a b c d pw ph : Int} {A : Option Addr} (hz : w'.heap[g]? = some (.cells #[.int .i64 0, .int .i64 0, .int .i64 0, .int .i64 0, .int .i64 0, .int .i64 0, .int .i64 0, .int .i64 0, .slice none 0 0] 51)) :
    OpBoxAt g k i a b c d pw ph A n cp (((((((((w'.setCell ⟨g, 0, none⟩ (.int .i64 k)).setCell ⟨g, 1, none⟩ (.int .i64 i)).setCell ⟨g, 2, none⟩ (.int .i64 a)).setCell ⟨g, 3, none⟩ (.int .i64 b)).setCell ⟨g, 4, none⟩ (.int .i64 c)).setCell ⟨g, 5, none⟩ (.int .i64 d)).setCell ⟨g, 6, none⟩ (.int .i64 pw)).setCell ⟨g, 7, none⟩ (.int .i64 ph)).setCell ⟨g, 8, none⟩ (.slice A n cp)) := by
  have h0 : OpBoxAt g k 0 0 0 0 0 0 0 none 0 0 (w'.setCell ⟨g, 0, none⟩ (.int .i64 k)) := box_set hz
  have h1 : OpBoxAt g k i 0 0 0 0 0 0 none 0 0 _ := box_set (o := 1) (u := .int .i64 i) h0
  have h2 : OpBoxAt g k i a 0 0 0 0 0 none 0 0 _ := box_set (o := 2) (u := .int .i64 a) h1
  have h3 : OpBoxAt g k i a b 0 0 0 0 none 0 0 _ := box_set (o := 3) (u := .int .i64 b) h2
  have h4 : OpBoxAt g k i a b c 0 0 0 none 0 0 _ := box_set (o := 4) (u := .int .i64 c) h3
  have h5 : OpBoxAt g k i a b c d 0 0 none 0 0 _ := box_set (o := 5) (u := .int .i64 d) h4
  have h6 : OpBoxAt g k i a b c d pw 0 none 0 0 _ := box_set (o := 6) (u := .int .i64 pw) h5
  have h7 : OpBoxAt g k i a b c d pw ph none 0 0 _ := box_set (o := 7) (u := .int .i64 ph) h6
  exact box_set (o := 8) (u := .slice A n cp) h7
def StepR (W : World) (k i a b c d pw ph : Int) (A : Option Addr) (n cp : Nat) (t : Value) (wi : World) : Prop := ∃ go, t = .pointer (some ⟨go, 0, none⟩) ∧ OpBoxAt go k i a b c d pw ph A n cp wi ∧ Below W.heap.size W wi
theorem kind_ways (k : Int) : k = 16 ∨ k = 1 ∨ k = 10 ∨ k = 11 ∨ k = 12 ∨ k = 13 ∨ k = 14 ∨ k = 15 ∨ (k ≠ 16 ∧ k ≠ 1 ∧ k ≠ 10 ∧ k ≠ 11 ∧ k ≠ 12 ∧ k ≠ 13 ∧ k ≠ 14 ∧ k ≠ 15) := by omega
theorem step_tail {l : List FOp} {s1 : MSt} {B g : Nat} {m m1 : MSlots} {w w3 : World} (h : MachW l s1 B g m1 w3) (hm : MvM m g w m1 w3) : ∃ m', MachW l { s1 with at_ := s1.at_ + 1 } B g m' (w3.setCell ⟨g, 2, none⟩ (.int .i64 ((s1.at_ : Int) + 1))) ∧ MvM m g w m' (w3.setCell ⟨g, 2, none⟩ (.int .i64 ((s1.at_ : Int) + 1))) :=
  ⟨m1, MachW.store h.box h.low (h.rest.same (s' := { s1 with at_ := s1.at_ + 1 }) rfl rfl rfl rfl) 2 _ rfl, hm.set _ _⟩
theorem one_wrap {n : Nat} (h : n ≤ 1000) : IntKind.i64.wrap ((n : Int) + 1) = (n : Int) + 1 := IntWalk.i64_in _ (by omega)
theorem turns_few {l : List FOp} {s : MSt} (hf : BookFine l) (h : MOk l s) : s.turns.length ≤ 100 := by
  have h1 := congrArg List.length h.open_
  rw [List.length_map] at h1
  have := hf.deep s.at_ (by have := h.at_; omega)
  omega
theorem pic_pos {w : World} {k i a b c d : Int} {p : FPic} {A : Option Addr} {n : Nat} (h : opFault ⟨k, i, a, b, c, d, p⟩ = 0) (hk : k = 2) (hp : Pixs w A n p.p) : 0 < n := by
  subst hk
  have h1 := (opFault_fine h).2.2.2.2 rfl
  have h2 : 1 ≤ p.p.length ∧ p.p.length ≤ 64 := pic_len (picFault_fine.1 h1)
  have := hp.1
  omega
theorem far_of {w0 W2 wa : World} {Z : Nat → Prop} {A : Option Addr} {n : Nat} {rs rs0 : List (FAt FObj)} {P : List FObj} {pA : Option Addr} (hz : ∀ b, Z b → b < w0.heap.size) (ho : Objs wa A n rs) (_hd : dat rs = P) (ha : ∀ g, g < W2.heap.size → Avoid g rs0 → NotIn g pA → NotIn g A ∧ Avoid g rs) (hA : ∀ b, Z b → Avoid b rs0) (hP : ∀ b, Z b → NotIn b pA) (hs : w0.heap.size ≤ W2.heap.size) : FObjs Z wa A n rs :=
  ⟨ho, fun _ x hx hb => (ha _ (by have := hz _ hb; omega) (hA _ hb) (hP _ hb)).1 x hx rfl, fun r hr _ x hx hb => (ha _ (by have := hz _ hb; omega) (hA _ hb) (hP _ hb)).2 r hr x hx rfl⟩
set_option maxRecDepth 100000 in
set_option maxHeartbeats 16000000 in
theorem mstep_any (l : List FOp) (s : MSt) (B g : Nat) (m : MSlots) (W : World) (h : MachW l s B g m W) (hf : BookFine l) (hok : MOk l s) :
    Calls Try.prog 23 #[.pointer (some ⟨g, 0, none⟩)] W (RetM (errV (stepP l s).2) l (stepP l s).1 B g m W) := by
  have hlen : l.length = m.ln := by
    have h1 := h.rest.ops.ops.1
    have h2 := congrArg List.length h.rest.opsd
    rw [datO_len] at h2
    omega
  have hat := hok.at_
  have h60 := hf.few
  obtain ⟨lb, lo, r0, hlA, hlb, hr0, hlc⟩ := ops_at h.rest.ops.ops (k := s.at_) (by omega)
  have he0 := ops_fst h.rest.opsd hr0
  have hr0m : r0 ∈ m.ols := List.mem_of_getElem? hr0
  have hpx := h.rest.ops.ops.2.2 r0 hr0m
  have hpf := h.rest.ops.pics r0 hr0m
  have hof := hf.ops _ hat
  rw [he0] at hof
  have hlp : ∀ j u, (opCells r0)[j]? = some u → W.cell? ⟨lb, lo + s.at_ * 9 + j, none⟩ = some u := hlc
  obtain ⟨⟨k, i, a, b, c, d, ⟨pw, ph, pl⟩⟩, pA, pn, pc⟩ := r0
  have y0 := hlc 0 _ rfl
  have y1 := hlc 1 _ rfl
  have y2 := hlc 2 _ rfl
  have y3 := hlc 3 _ rfl
  have y4 := hlc 4 _ rfl
  have y5 := hlc 5 _ rfl
  have y6 := hlc 6 _ rfl
  have y7 := hlc 7 _ rfl
  have y8 := hlc 8 _ rfl
  rw [Nat.add_zero] at y0
  simp only at y0 y1 y2 y3 y4 y5 y6 y7 y8 hpx hpf hof he0
  obtain ⟨x0, -, x2, -⟩ := h.cell
  rw [hlA] at x0
  have k0 : (0 : Int) ≤ (s.at_ : Int) := by omega
  have k1 : (s.at_ : Int) < (m.ln : Int) := by omega
  have hgW : g < W.heap.size := (Array.getElem?_eq_some_iff.1 h.box).1
  have hBg := h.low
  have H := hid h
  have HF := hid hf
  have HK := hid hok
  have He := hid he0
  have Hpx := hid hpx
  have Hpf := hid hpf
  have Hof := hid hof
  clear h hf hok hlc hlp hr0 hr0m he0 hpx hpf hof hlA hlen
  go_enter Try.func23, Try.ntmps23
  go_upto_region 1 with fail
  go_cut [3] (fun t wi => StepR W k i a b c d pw ph pA pn pc t wi)
  case first =>
    (refine wp_region_alloc_last_at 10 3 _ _ (.cells #[.int .i64 0, .int .i64 0, .int .i64 0, .int .i64 0, .int .i64 0, .int .i64 0, .int .i64 0, .int .i64 0, .slice none 0 0] 51) rfl (by kernel_rfl) (by kernel_rfl) (by kernel_rfl) (by kernel_rfl) rfl (fun a w => by rfl) ?_)
    intro W2 hW
    have F0 := cell_all2 (b := g) (by have := hW.size; omega) (held_cell hW hgW x0)
    have F2 := cell_all2 (b := g) (by have := hW.size; omega) (held_cell hW hgW x2)
    have G0 := cell_all2 (b := lb) (by have := hW.size; omega) (held_cell hW hlb y0)
    have G1 := cell_all2 (b := lb) (by have := hW.size; omega) (held_cell hW hlb y1)
    have G2 := cell_all2 (b := lb) (by have := hW.size; omega) (held_cell hW hlb y2)
    have G3 := cell_all2 (b := lb) (by have := hW.size; omega) (held_cell hW hlb y3)
    have G4 := cell_all2 (b := lb) (by have := hW.size; omega) (held_cell hW hlb y4)
    have G5 := cell_all2 (b := lb) (by have := hW.size; omega) (held_cell hW hlb y5)
    have G6 := cell_all2 (b := lb) (by have := hW.size; omega) (held_cell hW hlb y6)
    have G7 := cell_all2 (b := lb) (by have := hW.size; omega) (held_cell hW hlb y7)
    have G8 := cell_all2 (b := lb) (by have := hW.size; omega) (held_cell hW hlb y8)
    clear x0 x2 y0 y1 y2 y3 y4 y5 y6 y7 y8 hW
    simp only [List.take_succ_cons, List.take_zero]
    repeat (quiet_step (fail))
    refine wpQuiet_nil ?_
    intro go w2 hg hblk hb2
    have z0 := opblk_cell hblk 0 _ rfl
    have z1 := opblk_cell hblk 1 _ rfl
    have z2 := opblk_cell hblk 2 _ rfl
    have z3 := opblk_cell hblk 3 _ rfl
    have z4 := opblk_cell hblk 4 _ rfl
    have z5 := opblk_cell hblk 5 _ rfl
    have z6 := opblk_cell hblk 6 _ rfl
    have z7 := opblk_cell hblk 7 _ rfl
    have z8 := opblk_cell hblk 8 _ rfl
    have zf := fun o => opblk_free hblk o
    have HB := hid hblk
    clear F0 F2 G0 G1 G2 G3 G4 G5 G6 G7 G8 hblk
    go_wp2_with fail
    go_meet
    exact ⟨go, rfl, opbox_nine HB.out, ((((((((hb2.setCell hg _).setCell hg _).setCell hg _).setCell hg _).setCell hg _).setCell hg _).setCell hg _).setCell hg _).setCell hg _⟩
  case rest =>
    obtain ⟨go, rfl, hbox, hb1⟩ := hcut
    obtain ⟨W1, rfl⟩ : ∃ W1 : World, W1 = wc := ⟨_, rfl⟩
    have HO1 := hid hbox
    have H1 := hid (H.out.below hb1)
    have Hpx1 := hid (Hpx.out.below hb1)
    have hBB1 : Below B W W1 := hb1.mono (by omega)
    have HB0 := hid hb1
    clear hbox hb1 H Hpx x0 x2 y0 y1 y2 y3 y4 y5 y6 y7 y8 hlb
    obtain ⟨c0, c1, c2, c3, c4, c5, c6, c7, c8⟩ := OpBoxAt.cells HO1.out
    have hgW1 : g < W1.heap.size := (Array.getElem?_eq_some_iff.1 H1.out.box).1
    have hB1 : B ≤ W1.heap.size := by omega
    rcases kind_ways k with rfl | rfl | rfl | rfl | rfl | rfl | rfl | rfl | hk
    · have HV := hid (show stepP l s = (s, 0) by unfold stepP stepO; rw [He.out]; rfl)
      go_wp2_with fail
      go_ret
      rw [HV.out]
      exact ⟨rfl, ⟨m, H1.out, MvM.same (KeepM.of_below HB0.out) rfl rfl⟩, hBB1⟩
    · have HV := hid (show stepP l s = ({ s with at_ := s.at_ + 1 }, 0) by unfold stepP stepO; rw [He.out]; rfl)
      have HN := hid (show s.at_ ≤ 1000 by omega)
      obtain ⟨z2, zf⟩ : _ ∧ _ := ⟨H1.out.cell.2.2.1, opblk_free H1.out.box 2⟩
      have hw2 := one_wrap (n := _) HN.out
      have HT := hid (step_tail H1.out (MvM.same (m := m) (KeepM.of_below HB0.out) rfl rfl))
      go_wp2_with fail
      go_ret
      rw [HV.out]
      exact ⟨rfl, HT.out, (hBB1).setCell (by show B ≤ g; exact hBg) _⟩
    · have HV := hid (show stepP l s = ({ s with at_ := s.at_ + 1, back := (a, b) }, 0) by unfold stepP stepO; rw [He.out]; rfl)
      have HN := hid (show s.at_ ≤ 1000 by omega)
      obtain ⟨q6, q7, f6, f7⟩ : _ ∧ _ ∧ _ ∧ _ := ⟨H1.out.cell.2.2.2.2.2.2.1, H1.out.cell.2.2.2.2.2.2.2.1, opblk_free H1.out.box 6, opblk_free H1.out.box 7⟩
      go_upto_region 23 with fail
      have hm2 : MachW l { s with back := (a, b) } B g m ((W1.setCell ⟨g, 6, none⟩ (.int .i64 a)).setCell ⟨g, 7, none⟩ (.int .i64 b)) :=
        MachW.store (box_set H1.out.box) H1.out.low ((H1.out.rest.setg H1.out.box 6 (.int .i64 a)).same (s' := { s with back := (a, b) }) rfl rfl rfl rfl) 7 (.int .i64 b) rfl
      obtain ⟨W3, hW3⟩ : ∃ W3, W3 = (W1.setCell ⟨g, 6, none⟩ (.int .i64 a)).setCell ⟨g, 7, none⟩ (.int .i64 b) := ⟨_, rfl⟩
      have hB3 : Below B W W3 := by rw [hW3]; exact (hBB1.setCell (by show B ≤ g; exact hBg) _).setCell (by show B ≤ g; exact hBg) _
      have HM3 := hid (show MvM m g W m W3 by rw [hW3]; exact MvM.same (((KeepM.of_below HB0.out).setCell (m.Og g) _ _).setCell (m.Og g) _ _) rfl rfl)
      rw [← hW3] at hm2 ⊢
      have H3 := hid hm2
      clear hW3 hm2 q6 q7 f6 f7
      obtain ⟨z2, zf⟩ : _ ∧ _ := ⟨H3.out.cell.2.2.1, opblk_free H3.out.box 2⟩
      have hw2 := one_wrap (n := _) HN.out
      have HT := hid (step_tail H3.out HM3.out)
      go_wp2_with fail
      go_ret
      rw [HV.out]
      exact ⟨rfl, HT.out, (hB3).setCell (by show B ≤ g; exact hBg) _⟩
    · have C := mwait_any l s B g m W1 H1.out HF.out HK.out 11 i a b c d pw ph pA pn pc
      have HN := hid (show s.at_ ≤ 1000 by omega)
      by_cases hfu : s.frames.length = 40
      · have HV := hid (show stepP l s = (s, 7) by unfold stepP stepO; rw [He.out]; simp [hfu])
        rw [show waitS l s a = (s, 7) by unfold waitS; rw [if_pos hfu]] at C
        go_wp2_with fail
        refine C.mono ?_
        rintro e w3 ⟨rfl, ⟨m3, hm3, hv3⟩, hb3⟩
        rw [show errV 7 = .iface 69 (.int .i64 7) from rfl]
        go_wp2_with fail
        go_ret
        rw [HV.out]
        exact ⟨rfl, ⟨m3, hm3, hv3.after HB0.out⟩, hBB1.trans hb3⟩
      · have HV := hid (show stepP l s = ({ s with at_ := s.at_ + 1, frames := s.frames ++ [⟨seenP s.objs (headW l) (headH l) s.back, a⟩] }, 0) by unfold stepP stepO; rw [He.out]; simp [hfu])
        rw [show waitS l s a = ({ s with frames := s.frames ++ [⟨seenP s.objs (headW l) (headH l) s.back, a⟩] }, 0) by unfold waitS; rw [if_neg hfu]] at C
        go_wp2_with fail
        refine C.mono ?_
        rintro e w3 ⟨rfl, ⟨m3, hm3, hv3⟩, hb3⟩
        have HM3 := hid (hv3.after HB0.out)
        clear hv3
        rw [show errV 0 = .nilIface from rfl]
        have H3 := hid hm3
        clear hm3
        obtain ⟨z2, zf⟩ : _ ∧ _ := ⟨H3.out.cell.2.2.1, opblk_free H3.out.box 2⟩
        have hw2 := one_wrap (n := _) HN.out
        have HT := hid (step_tail H3.out HM3.out)
        go_wp2_with fail
        go_ret
        rw [HV.out]
        exact ⟨rfl, HT.out, (hBB1.trans hb3).setCell (by show B ≤ g; exact hBg) _⟩
    · have C := mloop_any l s B g m W1 H1.out HF.out HK.out.at_ (by rw [He.out]) (turns_few HF.out HK.out) 12 i a b c d pw ph pA pn pc (loop_bd Hof.out rfl)
      have HN := hid (show (loopS l s a).at_ ≤ 1000 by
        unfold loopS
        split
        · have := (endP_spec HF.out HK.out.at_ (by rw [He.out])).len; show endP l s.at_ ≤ 1000; omega
        · show s.at_ ≤ 1000; omega)
      have HV := hid (show stepP l s = ({ loopS l s a with at_ := (loopS l s a).at_ + 1 }, 0) by unfold stepP stepO; rw [He.out]; unfold loopS; simp only; by_cases ha : a = 0 <;> simp [ha])
      go_wp2_with fail
      refine C.mono ?_
      rintro e w3 ⟨rfl, ⟨m3, hm3, hv3⟩, hb3⟩
      have HM3 := hid (hv3.after HB0.out)
      clear hv3
      have H3 := hid hm3
      clear hm3
      obtain ⟨z2, zf⟩ : _ ∧ _ := ⟨H3.out.cell.2.2.1, opblk_free H3.out.box 2⟩
      have hw2 := one_wrap (n := _) HN.out
      have HT := hid (step_tail H3.out HM3.out)
      go_wp2_with fail
      go_ret
      rw [HV.out]
      exact ⟨rfl, HT.out, (hBB1.trans hb3).setCell (by show B ≤ g; exact hBg) _⟩
    · obtain ⟨r, i0, n0, hr, -, hi0, -, hn1, hn9⟩ := turn_last HF.out HK.out (by rw [He.out])
      have hfew := turns_few HF.out HK.out
      have hrl : r.length ≤ 100 := by rw [hr] at hfew; simp at hfew; omega
      have C := mnext_any l s B g m W1 H1.out r i0 n0 hr ⟨hn1, hn9⟩ hrl
      have HN := hid (show (nextS s r i0 n0).at_ ≤ 1000 by
        unfold nextS
        split
        · show s.at_ ≤ 1000; omega
        · show i0 ≤ 1000; omega)
      have HV := hid (show stepP l s = ({ nextS s r i0 n0 with at_ := (nextS s r i0 n0).at_ + 1 }, 0) by unfold stepP stepO; rw [He.out]; simp only; rw [turnM_eq hr]; unfold nextS; by_cases ha : n0 ≤ 1 <;> simp [ha])
      clear hr hfew hrl
      go_wp2_with fail
      refine C.mono ?_
      rintro e w3 ⟨rfl, ⟨m3, hm3, hv3⟩, hb3⟩
      have HM3 := hid (hv3.after HB0.out)
      clear hv3
      have H3 := hid hm3
      clear hm3
      obtain ⟨z2, zf⟩ : _ ∧ _ := ⟨H3.out.cell.2.2.1, opblk_free H3.out.box 2⟩
      have hw2 := one_wrap (n := _) HN.out
      have HT := hid (step_tail H3.out HM3.out)
      go_wp2_with fail
      go_ret
      rw [HV.out]
      exact ⟨rfl, HT.out, (hBB1.trans hb3).setCell (by show B ≤ g; exact hBg) _⟩
    · have C := cloneob_any m.oA m.on m.oc m.os W1 H1.out.rest.objs.objs (by
        have h1 := objs_few (l := dat m.os) (by rw [H1.out.rest.objsd]; exact HK.out.objs)
        rw [dat_len, H1.out.rest.objs.objs.1] at h1
        omega)
      have HN := hid (show s.at_ ≤ 1000 by omega)
      have HV := hid (show stepP l s = ({ { s with saved := s.objs } with at_ := s.at_ + 1 }, 0) by unfold stepP stepO; rw [He.out]; rfl)
      have q4 := H1.out.cell.2.2.2.2.1
      go_wp2_with fail
      refine C.mono ?_
      rintro e w3 ⟨v, rfl, hown, hb3⟩
      obtain ⟨A', c', rfl, hA, -⟩ := own_slice hown
      have hm3 := H1.out.below hb3
      have hfo : FObjs (m.Z g) w3 A' m.os.length m.os := ⟨⟨rfl, Row.of_own hown, fun r hr => (H1.out.rest.objs.objs.2.2 r hr).below hb3⟩, FarR.new (fun x hx => (hA x hx).1) (H1.out.rest.Zlt hgW1), H1.out.rest.objs.pics⟩
      have q5 := hm3.cell.2.2.2.2.2.1
      have f5 := opblk_free hm3.box 5
      have hst : MachW l { s with saved := s.objs } B g { m with sA := A', sn := m.os.length, sc := c', ss := m.os } (w3.setCell ⟨g, 5, none⟩ (.slice A' m.os.length c')) :=
        MachW.store hm3.box hm3.low (hm3.rest.savedTo (s' := { s with saved := s.objs }) (c := c') hfo H1.out.rest.objsd rfl rfl rfl) 5 (.slice A' m.os.length c') rfl
      have hB3 : Below B W w3 := hBB1.trans (hb3.mono hB1)
      have HB3 := hid hb3
      have Hst := hid hst
      clear hm3 hfo hown hA hst C q4
      go_upto_region 23 with fail
      obtain ⟨W3, hW3⟩ : ∃ W3, W3 = w3.setCell ⟨g, 5, none⟩ (.slice A' m.os.length c') := ⟨_, rfl⟩
      have hB4 : Below B W W3 := by rw [hW3]; exact hB3.setCell (by show B ≤ g; exact hBg) _
      have HM3 := hid (show MvM m g W { m with sA := A', sn := m.os.length, sc := c', ss := m.os } W3 by rw [hW3]; exact MvM.same (((KeepM.of_below HB0.out).trans (KeepM.of_below (Z := m.O g) HB3.out) (fun _ hb => Or.inl hb)).setCell (m.Og g) _ _) rfl rfl)
      have H3 : Hid (MachW l { s with saved := s.objs } B g { m with sA := A', sn := m.os.length, sc := c', ss := m.os } W3) := hid (by rw [hW3]; exact Hst.out)
      rw [← hW3]
      clear hW3 Hst q5 f5
      obtain ⟨z2, zf⟩ : _ ∧ _ := ⟨H3.out.cell.2.2.1, opblk_free H3.out.box 2⟩
      have hw2 := one_wrap (n := _) HN.out
      have HT := hid (step_tail H3.out HM3.out)
      go_wp2_with fail
      go_ret
      rw [HV.out]
      exact ⟨rfl, HT.out, (hB4).setCell (by show B ≤ g; exact hBg) _⟩
    · have C := cloneob_any m.sA m.sn m.sc m.ss W1 H1.out.rest.saved.objs (by
        have h1 := objs_few (l := dat m.ss) (by rw [H1.out.rest.savedd]; exact HK.out.saved)
        rw [dat_len, H1.out.rest.saved.objs.1] at h1
        omega)
      have HN := hid (show s.at_ ≤ 1000 by omega)
      have HV := hid (show stepP l s = ({ { s with objs := s.saved } with at_ := s.at_ + 1 }, 0) by unfold stepP stepO; rw [He.out]; rfl)
      have q4 := H1.out.cell.2.2.2.2.2.1
      go_wp2_with fail
      refine C.mono ?_
      rintro e w3 ⟨v, rfl, hown, hb3⟩
      obtain ⟨A', c', rfl, hA, -⟩ := own_slice hown
      have hm3 := H1.out.below hb3
      have hfo : FObjs (m.Z g) w3 A' m.ss.length m.ss := ⟨⟨rfl, Row.of_own hown, fun r hr => (H1.out.rest.saved.objs.2.2 r hr).below hb3⟩, FarR.new (fun x hx => (hA x hx).1) (H1.out.rest.Zlt hgW1), H1.out.rest.saved.pics⟩
      have q5 := hm3.cell.2.2.2.2.1
      have f5 := opblk_free hm3.box 4
      have hst : MachW l { s with objs := s.saved } B g { m with oA := A', on := m.ss.length, oc := c', os := m.ss } (w3.setCell ⟨g, 4, none⟩ (.slice A' m.ss.length c')) :=
        MachW.store hm3.box hm3.low (hm3.rest.objsTo (s' := { s with objs := s.saved }) (c := c') hfo H1.out.rest.savedd rfl rfl rfl) 4 (.slice A' m.ss.length c') rfl
      have hB3 : Below B W w3 := hBB1.trans (hb3.mono hB1)
      have HB3 := hid hb3
      have Hst := hid hst
      clear hm3 hfo hown hA hst C q4
      go_upto_region 23 with fail
      obtain ⟨W3, hW3⟩ : ∃ W3, W3 = w3.setCell ⟨g, 4, none⟩ (.slice A' m.ss.length c') := ⟨_, rfl⟩
      have hB4 : Below B W W3 := by rw [hW3]; exact hB3.setCell (by show B ≤ g; exact hBg) _
      have HM3 := hid (show MvM m g W { m with oA := A', on := m.ss.length, oc := c', os := m.ss } W3 by rw [hW3]; exact MvM.same (((KeepM.of_below HB0.out).trans (KeepM.of_below (Z := m.O g) HB3.out) (fun _ hb => Or.inl hb)).setCell (m.Og g) _ _) rfl rfl)
      have H3 : Hid (MachW l { s with objs := s.saved } B g { m with oA := A', on := m.ss.length, oc := c', os := m.ss } W3) := hid (by rw [hW3]; exact Hst.out)
      rw [← hW3]
      clear hW3 Hst q5 f5
      obtain ⟨z2, zf⟩ : _ ∧ _ := ⟨H3.out.cell.2.2.1, opblk_free H3.out.box 2⟩
      have hw2 := one_wrap (n := _) HN.out
      have HT := hid (step_tail H3.out HM3.out)
      go_wp2_with fail
      go_ret
      rw [HV.out]
      exact ⟨rfl, HT.out, (hB4).setCell (by show B ≤ g; exact hBg) _⟩
    · obtain ⟨h16, h1, h10, h11, h12, h13, h14, h15⟩ := hk
      have b16 : (k == 16) = false := by simp [h16]
      have b1 : (k == 1) = false := by simp [h1]
      have b10 : (k == 10) = false := by simp [h10]
      have b11 : (k == 11) = false := by simp [h11]
      have b12 : (k == 12) = false := by simp [h12]
      have b13 : (k == 13) = false := by simp [h13]
      have b14 : (k == 14) = false := by simp [h14]
      have b15 : (k == 15) = false := by simp [h15]
      have HN := hid (show s.at_ ≤ 1000 by omega)
      have HV := hid (show stepP l s = if (doP s.objs ⟨k, i, a, b, c, d, ⟨pw, ph, pl⟩⟩).2 ≠ 0 then (s, (doP s.objs ⟨k, i, a, b, c, d, ⟨pw, ph, pl⟩⟩).2) else ({ s with at_ := s.at_ + 1, objs := (doP s.objs ⟨k, i, a, b, c, d, ⟨pw, ph, pl⟩⟩).1 }, 0) by unfold stepP stepO; rw [He.out]; simp only [h16, h1, h10, h11, h12, h13, h14, h15, if_false])
      have hn6 : m.on ≤ 1000 := by
        have h1 := objs_few (l := dat m.os) (by rw [H1.out.rest.objsd]; exact HK.out.objs)
        rw [dat_len, H1.out.rest.objs.objs.1] at h1
        omega
      have C := hid (fun W2 (hb : Below W1.heap.size W1 W2) => do_any3 ⟨⟨k, i, a, b, c, d, ⟨pw, ph, pl⟩⟩, pA, pn, pc⟩ m.oA m.on m.oc m.os W2 (H1.out.rest.objs.objs.below hb) (Hpx1.out.below hb) (by rw [H1.out.rest.objsd]; exact HK.out.objs) hn6 Hof.out)
      rw [H1.out.rest.objsd] at C
      unfold opV at C
      simp only at C
      obtain ⟨⟨P, f⟩, hP⟩ : ∃ x, doP s.objs ⟨k, i, a, b, c, d, ⟨pw, ph, pl⟩⟩ = x := ⟨_, rfl⟩
      rw [hP] at C HV
      simp only at C HV
      have x4 := H1.out.cell.2.2.2.2.1
      have hfarP : ∀ b, m.Z g b → NotIn b (if k = 2 then pA else none) := by
        intro b hb
        by_cases h2 : k = 2
        · rw [if_pos h2]
          intro x hx e
          exact Hpf.out (pic_pos Hof.out h2 Hpx1.out) x hx (by rw [e]; exact hb)
        · rw [if_neg h2]; intro x hx; cases hx
      have hfarO : ∀ b, m.Z g b → Avoid b m.os := by
        intro b hb q hq x hx e
        have hq2 := HK.out.objs.2 q.x (by rw [← H1.out.rest.objsd]; exact List.mem_map.2 ⟨q, hq, rfl⟩)
        have hq3 := pic_len hq2.2.2
        exact H1.out.rest.objs.pics q hq (by have := (H1.out.rest.objs.objs.2.2 q hq).1; omega) x hx (by rw [e]; exact hb)
      have HfP := hid hfarP
      have HfO := hid hfarO
      clear hfarP hfarO h16 h1 h10 h11 h12 h13 h14 h15 hP
      go_upto_region 5 with fail
      go_cut [4, 5] (fun u v wi => ∃ (A : Option Addr) (n c : Nat) (rs : List (FAt FObj)), u = errV f ∧ v = .slice A n c ∧ FObjs (m.Z g) wi A n rs ∧ dat rs = P ∧ Below W1.heap.size W1 wi)
      case first =>
        have HBW : Below W1.heap.size W1 W1 := Below.refl _ _
        have KS := hid (fun W2 (hb : Below W1.heap.size W1 W2) => (⟨(H1.out.below hb).cell.2.2.2.2.1, OpBoxAt.cells (blk_keep HO1.out hb)⟩ : W2.cell? ⟨g, 4, none⟩ = some (.slice m.oA m.on m.oc) ∧ W2.cell? ⟨go, 0, none⟩ = some (.int .i64 k) ∧ W2.cell? ⟨go, 1, none⟩ = some (.int .i64 i) ∧ W2.cell? ⟨go, 2, none⟩ = some (.int .i64 a) ∧ W2.cell? ⟨go, 3, none⟩ = some (.int .i64 b) ∧ W2.cell? ⟨go, 4, none⟩ = some (.int .i64 c) ∧ W2.cell? ⟨go, 5, none⟩ = some (.int .i64 d) ∧ W2.cell? ⟨go, 6, none⟩ = some (.int .i64 pw) ∧ W2.cell? ⟨go, 7, none⟩ = some (.int .i64 ph) ∧ W2.cell? ⟨go, 8, none⟩ = some (.slice pA pn pc)))
        go_region_held3 (fun W => W.cell? ⟨g, 4, none⟩ = some (.slice m.oA m.on m.oc) ∧ W.cell? ⟨go, 0, none⟩ = some (.int .i64 k) ∧ W.cell? ⟨go, 1, none⟩ = some (.int .i64 i) ∧ W.cell? ⟨go, 2, none⟩ = some (.int .i64 a) ∧ W.cell? ⟨go, 3, none⟩ = some (.int .i64 b) ∧ W.cell? ⟨go, 4, none⟩ = some (.int .i64 c) ∧ W.cell? ⟨go, 5, none⟩ = some (.int .i64 d) ∧ W.cell? ⟨go, 6, none⟩ = some (.int .i64 pw) ∧ W.cell? ⟨go, 7, none⟩ = some (.int .i64 ph) ∧ W.cell? ⟨go, 8, none⟩ = some (.slice pA pn pc)) (first | with_reducible exact KS.out _ HBW | with_reducible exact KS.out _ (by have hB := HBW; (repeat (first | with_reducible exact hB | with_reducible refine Below.alloc ?_ (by have := hB.size; simp; try omega) _ | with_reducible refine Below.setCell ?_ (by have := hB.size; simp; try omega) _ | with_reducible refine below_drewN ?_ _ | with_reducible refine Below.drew ?_))))
          ((go_at_call 46; (with_reducible refine (C.out _ (by first | with_reducible exact HBW | (have hB := HBW; (repeat (first | with_reducible exact hB | with_reducible refine Below.alloc ?_ (by have := hB.size; simp; try omega) _ | with_reducible refine Below.setCell ?_ (by have := hB.size; simp; try omega) _ | with_reducible refine below_drewN ?_ _ | with_reducible refine Below.drew ?_))))).mono ?_); rintro e wa ⟨A2, n2, k2, rs2, rfl, hobj, hdat, hbw, havoid⟩; have HBW : Below W1.heap.size W1 wa := bnext (by have hB := HBW; (repeat (first | with_reducible exact hB | with_reducible refine Below.alloc ?_ (by have := hB.size; simp; try omega) _ | with_reducible refine Below.setCell ?_ (by have := hB.size; simp; try omega) _ | with_reducible refine below_drewN ?_ _ | with_reducible refine Below.drew ?_))) hbw))
        all_goals (go_wp2_with fail)
        all_goals go_meet
        all_goals (exact ⟨A2, n2, k2, rs2, rfl, rfl, far_of (H1.out.rest.Zlt hgW1) hobj hdat havoid HfO.out HfP.out (Nat.le_refl _), hdat, HBW⟩)
      case rest =>
        obtain ⟨A2, n2, k2, rs2, rfl, rfl, hfo, hdat, hb3⟩ := hcut
        obtain ⟨w3, rfl⟩ : ∃ w3 : World, w3 = wc := ⟨_, rfl⟩
        have hm3 := H1.out.below hb3
        have hB3 : Below B W w3 := hBB1.trans (hb3.mono hB1)
        have HB3 := hid hb3
        clear C c0 c1 c2 c3 c4 c5 c6 c7 c8 x4
        by_cases hf0 : f = 0
        · subst hf0
          rw [if_neg (by simp)] at HV
          rw [show errV 0 = .nilIface from rfl]
          have q4 := hm3.cell.2.2.2.2.1
          have f4 := opblk_free hm3.box 4
          have hst : MachW l { s with objs := P } B g { m with oA := A2, on := n2, oc := k2, os := rs2 } (w3.setCell ⟨g, 4, none⟩ (.slice A2 n2 k2)) :=
            MachW.store hm3.box hm3.low (hm3.rest.objsTo (s' := { s with objs := P }) (c := k2) hfo hdat rfl rfl rfl) 4 (.slice A2 n2 k2) rfl
          have Hst := hid hst
          clear hm3 hfo hst
          go_upto_region 23 with fail
          obtain ⟨W3, hW3⟩ : ∃ W3, W3 = w3.setCell ⟨g, 4, none⟩ (.slice A2 n2 k2) := ⟨_, rfl⟩
          have hB4 : Below B W W3 := by rw [hW3]; exact hB3.setCell (by show B ≤ g; exact hBg) _
          have HM3 := hid (show MvM m g W { m with oA := A2, on := n2, oc := k2, os := rs2 } W3 by rw [hW3]; exact MvM.same (((KeepM.of_below HB0.out).trans (KeepM.of_below (Z := m.O g) HB3.out) (fun _ hb => Or.inl hb)).setCell (m.Og g) _ _) rfl rfl)
          have H3 : Hid (MachW l { s with objs := P } B g { m with oA := A2, on := n2, oc := k2, os := rs2 } W3) := hid (by rw [hW3]; exact Hst.out)
          rw [← hW3]
          clear hW3 Hst q4 f4
          obtain ⟨z2, zf⟩ : _ ∧ _ := ⟨H3.out.cell.2.2.1, opblk_free H3.out.box 2⟩
          have hw2 := one_wrap (n := _) HN.out
          have HT := hid (step_tail H3.out HM3.out)
          go_wp2_with fail
          go_ret
          rw [HV.out]
          exact ⟨rfl, HT.out, (hB4).setCell (by show B ≤ g; exact hBg) _⟩
        · obtain ⟨f, rfl⟩ : ∃ f0, f = f0 + 1 := ⟨f - 1, by omega⟩
          rw [if_pos (by simp)] at HV
          rw [errV_pos (by omega)]
          have H3 := hid hm3
          clear hm3 hfo
          go_wp2_with fail
          go_ret
          rw [HV.out]
          exact ⟨rfl, ⟨m, H3.out, MvM.same ((KeepM.of_below HB0.out).trans (KeepM.of_below (Z := m.O g) HB3.out) (fun _ hb => Or.inl hb)) rfl rfl⟩, hB3⟩
end Fb
namespace Fb
open Go Go.Proofs Go.RowKit Go.Sort
attribute [local go_sem ↓] Go.wp_at_zero Go.wp_at_succ
def RetPlay (X : List FFrame × Nat) (w : World) (e : Ending) (w' : World) : Prop := ∃ A n c rs, e = .returned (.tuple #[.slice A n c, errV X.2]) ∧ Frames w' A n rs ∧ n ≤ c ∧ c ≤ maxLen ∧ frD rs = X.1 ∧ Below w.heap.size w w'
theorem retPlay_nil {X : List FFrame × Nat} {f : Nat} {w w' : World} (h : X = ([], f)) (hb : Below w.heap.size w w') : RetPlay X w (.returned (.tuple #[.slice none 0 0, errV f])) w' := by
  subst h
  exact ⟨none, 0, 0, [], rfl, ⟨rfl, Row.none_ _ _ _, fun r hr => by cases hr⟩, Nat.le_refl _, by unfold maxLen; omega, rfl, hb⟩
set_option maxRecDepth 100000 in
set_option maxHeartbeats 8000000 in
theorem mplay_any (A : Option Addr) (n c : Nat) (rs : List (FAt FOp)) (fuel : Int) (w : World) (h : Ops w A n rs) (hs : ∀ r ∈ rs, r.n ≤ 100) (hn : n ≤ 1000000) (_hfu : (Lit.int .i64 fuel).wf = true) :
    Calls Try.prog 16 #[.slice A n c, .int .i64 fuel] w (RetPlay (playP (datO rs) fuel) w) := by
  by_cases hf : bookFault (datO rs) = 0
  case neg =>
    have C := mnew_bad A n c rs w h hs hn hf
    have HV := hid (show playP (datO rs) fuel = ([], bookFault (datO rs)) by unfold playP; rw [if_pos hf])
    obtain ⟨f, hF⟩ : ∃ f, bookFault (datO rs) = f := ⟨_, rfl⟩
    rw [hF] at C hf HV
    obtain ⟨f, rfl⟩ : ∃ f0, f = f0 + 1 := ⟨f - 1, by omega⟩
    clear h hF
    go_enter Try.func16, Try.ntmps16
    go_wp2_with fail
    refine C.mono ?_
    rintro e w1 ⟨rfl, hb⟩
    rw [errV_pos (by omega)]
    go_wp2_with fail
    go_ret2
    exact retPlay_nil HV.out hb
  have hbf := book_fine hf
  have C := mnew_ok A n c rs w h hs hn hbf
  have HV := hid (show playP (datO rs) fuel = endM (datO rs) (runM (datO rs) (fuelN fuel) m0) by unfold playP; rw [if_neg (by omega)])
  obtain ⟨l, hl⟩ : ∃ l, datO rs = l := ⟨_, rfl⟩
  rw [hl] at hbf C HV
  have HF := hid hbf
  have h0 := m0_ok hbf
  obtain ⟨N, hN⟩ : ∃ N, fuelN fuel = N := ⟨_, rfl⟩
  rw [hN] at HV
  have hNf : (N : Int) = max 0 (min fuel 400) := by rw [← hN]; unfold fuelN; omega
  have hN4 : N ≤ 400 := by omega
  rw [hl]
  clear h hs hf hbf hl hN
  go_enter Try.func16, Try.ntmps16
  go_wp2_with fail
  refine C.mono ?_
  rintro e w1 ⟨g, m, rfl, hm, hb⟩
  clear C
  have H := hid hm
  clear hm
  go_wp2_with fail
  rw [← hNf]
  clear hNf
  go_loopw [20] (fun iv wr => ∃ (k : Nat) (sk : MSt) (mk : MSlots), k ≤ N ∧ iv = .int .i64 k ∧ Hid (MOk l sk) ∧ Hid (MachW l sk w.heap.size g mk wr) ∧ Hid (playP l fuel = endM l (runM l (N - k) sk)) ∧ Hid (Below w.heap.size w wr)) (fun iv _ => N - (intOf iv).toNat)
  case atStart => exact ⟨0, m0, m, by omega, rfl, hid h0, H, HV, hid hb⟩
  case round =>
    obtain ⟨k, sk, mk, hk, rfl, Hok, HK, HP, HB⟩ := hrel
    clear H HV h0 hb m
    by_cases hlt : k < N
    · have i1 : (k : Int) < (N : Int) := by omega
      obtain ⟨n', hn'⟩ : ∃ n', N - k = n' + 1 := ⟨N - k - 1, by omega⟩
      have hpr := HP.out
      rw [hn', runM] at hpr
      obtain ⟨W9, rfl⟩ : ∃ W9 : World, W9 = wr := ⟨_, rfl⟩
      go_wp2_with fail
      refine (mdone_any l sk w.heap.size g mk W9 HK.out Hok.out.at_).mono ?_
      rintro e w9 ⟨rfl, hb9⟩
      have HK9 := hid (HK.out.below hb9)
      have HB9 := hid (HB.out.trans (hb9.mono HB.out.size))
      by_cases h16 : (opAt l sk.at_).kind = 16
      · rw [if_pos h16] at hpr
        have HX := hid (show playP l fuel = (sk.frames, 0) by rw [hpr]; unfold endM; rw [if_neg (by simp), if_neg (by simp [h16])])
        rw [show ((opAt l sk.at_).kind == 16) = true by simp [h16]]
        clear hpr HK HB hb9
        obtain ⟨W9, rfl⟩ : ∃ W9 : World, W9 = w9 := ⟨_, rfl⟩
        have HK := HK9
        have HB := HB9
        clear HK9 HB9
        go_wp2_with fail
        refine (mdone_any l sk w.heap.size g mk W9 HK.out Hok.out.at_).mono ?_
        rintro e w9 ⟨rfl, hb9⟩
        have HK9 := hid (HK.out.below hb9)
        have HB9 := hid (HB.out.trans (hb9.mono HB.out.size))
        rw [show ((opAt l sk.at_).kind == 16) = true by simp [h16]]
        go_wp2_with fail
        refine (mframes_any l sk w.heap.size g mk w9 HK9.out (by have := Hok.out.few; omega)).mono ?_
        rintro e w10 ⟨A', n', c', rs', rfl, hfr, hnc, hcm, hdt, hb10⟩
        have HFr := hid hfr
        clear hfr
        go_wp2_with fail
        go_ret2
        exact ⟨A', n', c', rs', by rw [HX.out]; rfl, HFr.out, hnc, hcm, by rw [HX.out]; exact hdt, HB9.out.trans (hb10.mono HB9.out.size)⟩
      · rw [if_neg h16] at hpr
        rw [show ((opAt l sk.at_).kind == 16) = false by simp [h16]]
        have HPR := hid hpr
        clear hpr HK HB hb9
        go_wp2_with fail
        refine (mstep_any l sk w.heap.size g mk w9 HK9.out HF.out Hok.out).mono ?_
        rintro e w10 ⟨rfl, ⟨m10, hm10, -⟩, hb10⟩
        have HK10 := hid hm10
        have HB10 := hid (HB9.out.trans hb10)
        have hok10 := hid (step_ok HF.out Hok.out)
        clear hm10 hb10
        by_cases hs0 : (stepP l sk).2 = 0
        · have hpr := HPR.out
          rw [if_neg (by omega)] at hpr
          rw [hs0, show errV 0 = .nilIface from rfl]
          have HP2 := hid (show playP l fuel = endM l (runM l (N - (k + 1)) (stepP l sk).1) by rw [hpr, show N - (k + 1) = n' by omega])
          have e1 : IntKind.i64.wrap ((k : Int) + 1) = (k : Int) + 1 := IntWalk.i64_in _ (by omega)
          clear hpr HPR HP
          go_wp2_with fail
          go_roundw
          case rel => exact ⟨k + 1, (stepP l sk).1, m10, by omega, by go_num, hok10, HK10, HP2, HB10⟩
          case measure => simp [intOf]; omega
        · obtain ⟨f, hf⟩ : ∃ f, (stepP l sk).2 = f + 1 := ⟨(stepP l sk).2 - 1, by omega⟩
          have hpr := HPR.out
          rw [if_pos hs0] at hpr
          have HX := hid (show playP l fuel = ([], f + 1) by rw [hpr]; unfold endM; rw [if_pos hs0, hf])
          rw [hf, errV_pos (by omega)]
          clear hpr HPR HP
          go_wp2_with fail
          go_ret2
          exact retPlay_nil HX.out HB10.out
    · have i1 : ¬ (k : Int) < (N : Int) := by omega
      have hpr := HP.out
      rw [show N - k = 0 by omega, runM] at hpr
      obtain ⟨W9, rfl⟩ : ∃ W9 : World, W9 = wr := ⟨_, rfl⟩
      go_wp2_with fail
      refine (mdone_any l sk w.heap.size g mk W9 HK.out Hok.out.at_).mono ?_
      rintro e w9 ⟨rfl, hb9⟩
      have HK9 := hid (HK.out.below hb9)
      have HB9 := hid (HB.out.trans (hb9.mono HB.out.size))
      by_cases h16 : (opAt l sk.at_).kind = 16
      · have HX := hid (show playP l fuel = (sk.frames, 0) by rw [hpr]; unfold endM; rw [if_neg (by simp), if_neg (by simp [h16])])
        clear hpr HK HB hb9
        rw [show ((opAt l sk.at_).kind == 16) = true by simp [h16]]
        go_wp2_with fail
        refine (mframes_any l sk w.heap.size g mk w9 HK9.out (by have := Hok.out.few; omega)).mono ?_
        rintro e w10 ⟨A', n', c', rs', rfl, hfr, hnc, hcm, hdt, hb10⟩
        have HFr := hid hfr
        clear hfr
        go_wp2_with fail
        go_ret2
        exact ⟨A', n', c', rs', by rw [HX.out]; rfl, HFr.out, hnc, hcm, by rw [HX.out]; exact hdt, HB9.out.trans (hb10.mono HB9.out.size)⟩
      · have HX := hid (show playP l fuel = ([], 8) by rw [hpr]; unfold endM; rw [if_neg (by simp), if_pos h16])
        clear hpr HK HB hb9
        rw [show ((opAt l sk.at_).kind == 16) = false by simp [h16]]
        go_wp2_with fail
        go_ret2
        exact retPlay_nil HX.out HB9.out
end Fb
namespace Fb
open Go Go.Proofs Go.RowKit Go.Sort
attribute [local go_sem ↓] Go.wp_at_zero Go.wp_at_succ
def worksL : List FOp := [⟨1, 0, 1, 1, 0, 0, ⟨0, 0, []⟩⟩, ⟨10, 0, 7, 255, 0, 0, ⟨0, 0, []⟩⟩, ⟨11, 0, 3, 0, 0, 0, ⟨0, 0, []⟩⟩, ⟨16, 0, 0, 0, 0, 0, ⟨0, 0, []⟩⟩]
theorem works_play : playP worksL 9 = ([⟨⟨1, 1, [(7, 255)]⟩, 3⟩], 0) := by kernel_rfl
def bareR (o : FOp) : FAt FOp := ⟨o, none, 0, 0⟩
/-- ops that lie in a new block -/
theorem ops_new {w : World} {g : Nat} {rs : List (FAt FOp)} {cs : Array Value} {T : TypeId} (h : w.heap[g]? = some (.cells cs T (0, 0))) (hc : cs.toList = rs.flatMap opCells) (hp : ∀ r ∈ rs, Pixs w r.A r.n r.x.pic.p) : Ops w (some ⟨g, 0, none⟩) rs.length rs := by
  refine ⟨rfl, ⟨flat_len (enc := opCells) (size := 9) (fun _ => rfl) rs, fun _ => ⟨g, 0, rfl, (Array.getElem?_eq_some_iff.1 h).1, fun j u hu => ?_⟩⟩, hp⟩
  rw [Nat.zero_add]
  exact opblk_cell h j u (by rw [← hc] at hu; simpa using hu)
set_option maxRecDepth 100000 in
set_option maxHeartbeats 4000000 in
theorem mworks_any (w : World) : Calls Try.prog 29 #[] w (Ret (.bool true) w) := by
  go_enter Try.func29, Try.ntmps29
  go_wp2_with fail
  have hOps : Ops (w.alloc (.cells #[.int .i64 1, .int .i64 0, .int .i64 1, .int .i64 1, .int .i64 0, .int .i64 0, .int .i64 0, .int .i64 0, .slice none 0 0, .int .i64 10, .int .i64 0, .int .i64 7, .int .i64 255, .int .i64 0, .int .i64 0, .int .i64 0, .int .i64 0, .slice none 0 0, .int .i64 11, .int .i64 0, .int .i64 3, .int .i64 0, .int .i64 0, .int .i64 0, .int .i64 0, .int .i64 0, .slice none 0 0, .int .i64 16, .int .i64 0, .int .i64 0, .int .i64 0, .int .i64 0, .int .i64 0, .int .i64 0, .int .i64 0, .slice none 0 0] 51)) (some ⟨w.heap.size, 0, none⟩) 4 (worksL.map bareR) :=
    ops_new (rs := worksL.map bareR) (heap_alloc_new w _) rfl (fun r hr => by
      obtain ⟨o, ho, rfl⟩ := List.mem_map.1 hr
      have : o.pic.p = [] := by
        simp [worksL] at ho
        rcases ho with rfl | rfl | rfl | rfl <;> rfl
      show Pixs _ none 0 o.pic.p
      rw [this]
      exact pixs_none _ _)
  have C := mplay_any (some ⟨w.heap.size, 0, none⟩) 4 4 (worksL.map bareR) 9 _ hOps (fun r hr => by obtain ⟨o, -, rfl⟩ := List.mem_map.1 hr; show 0 ≤ 100; omega) (by omega) (by decide)
  rw [show datO (worksL.map bareR) = worksL from rfl, works_play] at C
  refine C.mono ?_
  rintro e w2 ⟨A', n', c', rs', rfl, hfr, hnc, hcm, hdt, hb⟩
  have hB : Below w.heap.size w w2 := (((Below.refl w.heap.size w).alloc (Nat.le_refl _) _)).trans (hb.mono (by simp))
  clear hb C hOps
  obtain ⟨h1, h2, h3⟩ := hfr
  obtain ⟨r, rfl⟩ : ∃ r, rs' = [r] := by
    have := congrArg List.length hdt
    unfold frD at this
    rw [List.length_map] at this
    exact List.length_eq_one_iff.1 this
  have hr : r.x = ⟨⟨1, 1, [(7, 255)]⟩, 3⟩ := by
    unfold frD at hdt
    simpa using hdt
  obtain rfl : n' = 1 := h1.symm
  have hp := h3 r (by simp)
  obtain ⟨b, off, rfl, -, hc⟩ := h2.2 (by omega)
  obtain ⟨x, rA, rn, rc⟩ := r
  simp only at hr hp
  subst hr
  obtain rfl : rn = 1 := hp.1.symm
  obtain ⟨pb, po, rfl, -, hpc⟩ := hp.2.2 (by omega)
  have z2 := hc 2 _ rfl
  have z3 := hc 3 _ rfl
  have z0 := hpc 0 _ rfl
  rw [Nat.add_zero] at z0
  simp only at z2 z3
  clear hc hpc hp h1 h2 h3 hdt hnc hcm
  rw [show errV 0 = .nilIface from rfl]
  go_wp2_with fail
  go_ret
  exact ⟨rfl, hB⟩
/-- a light op's picture is small -/
theorem light_small {rs : List (FAt FOp)} (h : lightOB rs = true) : ∀ r ∈ rs, r.n ≤ 100 := fun r hr => by
  unfold lightOB at h
  have := List.all_eq_true.1 h r hr
  simp at this
  omega
def mayB (n : Nat) (rs : List (FAt FOp)) : Bool := decide (n ≤ 70) && lightOB rs && decide (bookFault (datO rs) = 0)
theorem may_iff {n : Nat} {rs : List (FAt FOp)} : mayB n rs = true ↔ n ≤ 70 ∧ lightOB rs = true ∧ bookFault (datO rs) = 0 := by
  unfold mayB
  simp [and_assoc]
set_option maxRecDepth 100000 in
set_option maxHeartbeats 4000000 in
theorem mmay_any (A : Option Addr) (n c : Nat) (rs : List (FAt FOp)) (w : World) (h : Ops w A n rs) (hn : n ≤ maxLen) : Calls Try.prog 30 #[.slice A n c] w (Ret (.bool (mayB n rs)) w) := by
  have C := lightops_any A n c rs 70 w h (by omega) hn
  have H := hid h
  clear h
  cases hl : (decide (n ≤ 70) && lightOB rs) with
  | false =>
    have HV := hid (show mayB n rs = false by unfold mayB; rw [hl]; rfl)
    rw [hl] at C
    go_enter Try.func30, Try.ntmps30
    go_wp2_with fail
    refine C.mono ?_
    rintro e w1 ⟨rfl, hb⟩
    go_wp2_with fail
    go_ret
    exact ⟨by rw [HV.out]; rfl, hb⟩
  | true =>
    rw [hl] at C
    simp only [Bool.and_eq_true, decide_eq_true_eq] at hl
    have HV := hid (show mayB n rs = decide (bookFault (datO rs) = 0) by unfold mayB; simp [hl.1, hl.2])
    have hs := hid (light_small hl.2)
    go_enter Try.func30, Try.ntmps30
    go_wp2_with fail
    refine C.mono ?_
    rintro e w1 ⟨rfl, hb⟩
    go_wp2_with fail
    refine (bookcheck_any A n c rs w1 (H.out.below hb) hs.out (by omega)).mono ?_
    rintro e w2 ⟨rfl, hb2⟩
    by_cases hf : bookFault (datO rs) = 0
    · rw [hf, show errV 0 = .nilIface from rfl]
      rw [hf] at HV
      go_wp2_with fail
      go_ret
      exact ⟨by rw [HV.out]; rfl, bnext hb hb2⟩
    · rw [errV_pos hf]
      go_wp2_with fail
      go_ret
      exact ⟨by rw [HV.out]; simp [hf], bnext hb hb2⟩
end Fb

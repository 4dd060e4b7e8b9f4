/- Books as bytes: what is read of a book, in plain Lean; slices of ops that the call owns. Conditions: those of each lemma. -/
import Derived.Test.YtcmbbicemddggaaDoorPlainB
import Derived.Test.YtcmbbicemddggaaDoorOpParseW
import Derived.Test.YtcmbbicemddggaaDoorChunkAll
import Derived.Maps.AppendAt
set_option linter.unusedSimpArgs false
set_option linter.unusedVariables false
namespace Fb
open Go Go.Proofs Go.RowKit Go.Sort
theorem unpackGo_errO : ∀ (n : Nat) (L B : List UInt8) (most : Int), L.length ≤ n → (unpackGo L B most).2 ≤ 4
  | _, [], B, most, _ => by simp [unpackGo]
  | _, [_], B, most, _ => by simp [unpackGo]
  | 0, a :: b :: l, B, most, hn => by simp at hn
  | n + 1, a :: b :: l, B, most, hn => by
    unfold unpackGo
    split
    · exact Nat.le_refl _
    · split
      · show 2 ≤ 4; omega
      · exact unpackGo_errO n l _ most (by simp at hn; omega)
theorem unpack_errO (L : List UInt8) (most : Int) : (unpack L most).2 ≤ 4 := by
  unfold unpack
  split
  · exact Nat.le_refl _
  · exact unpackGo_errO _ L [] most (Nat.le_refl _)
theorem picOf_fault (s : List UInt8) : (picOf s).2 ≤ 100 := by
  unfold picOf
  split
  · simp
  · split
    · simp
    · have he := unpack_errO (s.drop 2) (((s.getD 1 0).toNat * (1 + 2 * (s.getD 0 0).toNat) : Nat) : Int)
      simp only
      split
      · show _ ≤ 100; omega
      · split
        · simp
        · split <;> simp
theorem opEnd_sm {o : FOp} (h : o.pic.p.length ≤ 100) : (opEnd o).1.pic.p.length ≤ 100 ∧ (opEnd o).2 ≤ 100 := by
  unfold opEnd
  have := opFault_le o
  split
  · exact ⟨h, by simp⟩
  · exact ⟨by simp [noOp], by show opFault o ≤ 100; omega⟩
theorem opOf_sm (N D : List UInt8) : (opOf N D).1.pic.p.length ≤ 100 ∧ (opOf N D).2 ≤ 100 := by
  unfold opOf
  have h1 := picOf_sm (s := D.drop (headN (kindOf N) + 2 * manyN (kindOf N)))
  have h2 := picOf_fault (D.drop (headN (kindOf N) + 2 * manyN (kindOf N)))
  repeat' split
  · exact ⟨Nat.zero_le _, by show 5 ≤ 100; omega⟩
  · exact ⟨Nat.zero_le _, by show 4 ≤ 100; omega⟩
  · exact opEnd_sm h1
  · exact ⟨Nat.zero_le _, h2⟩
  · exact opEnd_sm (Nat.zero_le _)
/-! ## the law -/
def opsGo : List (Bs × Bs) → List FOp → List FOp × Nat
  | [], acc => (acc, 0)
  | c :: r, acc => if c.1.getD 0 0 = 88 then opsGo r acc else if (opOf c.1 c.2).2 ≠ 0 then ([], (opOf c.1 c.2).2) else opsGo r (acc ++ [(opOf c.1 c.2).1])
def readEnd (x : List FOp × Nat) : List FOp × Nat := if x.2 ≠ 0 then ([], x.2) else if bookFault x.1 ≠ 0 then ([], bookFault x.1) else (x.1, 0)
def bookOf (s : Bs) : List FOp × Nat := if 4000 < s.length then ([], 2) else if (allL s 120).2 ≠ 0 then ([], (allL s 120).2) else readEnd (opsGo (allL s 120).1 [])
theorem bookOf_many {s : Bs} (h : 4000 < s.length) : bookOf s = ([], 2) := by unfold bookOf; rw [if_pos h]
theorem bookOf_chunks {s : Bs} (h : ¬ 4000 < s.length) (h2 : (allL s 120).2 ≠ 0) : bookOf s = ([], (allL s 120).2) := by unfold bookOf; rw [if_neg h, if_pos h2]
theorem bookOf_go {s : Bs} (h : ¬ 4000 < s.length) (h2 : (allL s 120).2 = 0) : bookOf s = readEnd (opsGo (allL s 120).1 []) := by unfold bookOf; rw [if_neg h, if_neg (by rw [h2]; simp)]
theorem opsGo_x {c : Bs × Bs} {r : List (Bs × Bs)} {acc : List FOp} (h : c.1.getD 0 0 = 88) : opsGo (c :: r) acc = opsGo r acc := by rw [opsGo, if_pos h]
theorem opsGo_bad {c : Bs × Bs} {r : List (Bs × Bs)} {acc : List FOp} (h : c.1.getD 0 0 ≠ 88) (h2 : (opOf c.1 c.2).2 ≠ 0) : opsGo (c :: r) acc = ([], (opOf c.1 c.2).2) := by rw [opsGo, if_neg h, if_pos h2]
theorem opsGo_ok {c : Bs × Bs} {r : List (Bs × Bs)} {acc : List FOp} (h : c.1.getD 0 0 ≠ 88) (h2 : (opOf c.1 c.2).2 = 0) : opsGo (c :: r) acc = opsGo r (acc ++ [(opOf c.1 c.2).1]) := by rw [opsGo, if_neg h, if_neg (by rw [h2]; simp)]
theorem readEnd_bad {x : List FOp × Nat} (h : x.2 ≠ 0) : readEnd x = ([], x.2) := by unfold readEnd; rw [if_pos h]
theorem readEnd_book {l : List FOp} (h : bookFault l ≠ 0) : readEnd (l, 0) = ([], bookFault l) := by unfold readEnd; rw [if_neg (by simp), if_pos h]
theorem readEnd_ok {l : List FOp} (h : bookFault l = 0) : readEnd (l, 0) = (l, 0) := by unfold readEnd; rw [if_neg (by simp), if_neg (by simpa using h)]
/-- chunks as they may lie in few bytes -/
def FineC (N : Nat) (l : List (Bs × Bs)) : Prop := ∀ c ∈ l, c.1.length = 4 ∧ c.2.length ≤ N
theorem FineC.snoc {N : Nat} {l : List (Bs × Bs)} {c : Bs × Bs} (h : FineC N l) (h1 : c.1.length = 4) (h2 : c.2.length ≤ N) : FineC N (l ++ [c]) := by
  intro x hx
  rcases List.mem_append.1 hx with hx | hx
  · exact h x hx
  · simp at hx; subst hx; exact ⟨h1, h2⟩
theorem first_fine {L : Bs} (h : firstF L = 0) : (firstA L).length = 4 ∧ (firstD L).length ≤ L.length := by
  obtain ⟨h1, h2, h3⟩ := firstF_zero h
  rw [firstA_ok h, firstD_ok h]
  exact ⟨nameB_four h2, by rw [List.length_drop, List.length_take]; omega⟩
theorem allGo_fine {N : Nat} (most : Int) : ∀ (n : Nat) (L : Bs) (acc : List (Bs × Bs)), L.length ≤ N → FineC N acc → FineC N (allGo most n L acc).1 := by
  intro n
  induction n with
  | zero => intro L acc _ h; exact h
  | succ n ih =>
    intro L acc hL h
    unfold allGo
    split
    · exact h
    · split
      · intro c hc; simp at hc
      · split
        · rename_i hf
          have h1 := first_fine hf
          have h2 := firstR_len hf
          exact ih _ _ (by omega) (h.snoc h1.1 (by show (firstD L).length ≤ N; omega))
        · intro c hc; simp at hc
theorem allL_fine (S : Bs) (most : Int) : FineC S.length (allL S most).1 := allGo_fine most _ S [] (Nat.le_refl _) (fun c hc => by simp at hc)
theorem allGo_few (most : Int) : ∀ (n : Nat) (L : Bs) (acc : List (Bs × Bs)), 8 * (allGo most n L acc).1.length ≤ 8 * acc.length + L.length := by
  intro n
  induction n with
  | zero => intro L acc; simp [allGo]
  | succ n ih =>
    intro L acc
    unfold allGo
    split
    · simp
    · split
      · simp
      · split
        · rename_i hf
          have h2 := firstR_len hf
          have := ih (firstR L) (acc ++ [(firstA L, firstD L)])
          simp only [List.length_append, List.length_cons, List.length_nil] at this
          omega
        · simp
theorem allL_few (S : Bs) (most : Int) : 8 * (allL S most).1.length ≤ S.length := by have := allGo_few most S.length S []; unfold allL; simpa using this
/-! ## chunks in memory -/
theorem Chunks.open_ {w : World} {A : Option Addr} {n : Nat} {l : List (Bs × Bs)} (h : Chunks w A n l) (hn : 0 < n) : ∃ b off, A = some ⟨b, off, none⟩ ∧ b < w.heap.size ∧ ∀ k (hk : k < l.length), w.cell? ⟨b, off + k * 2, none⟩ = some (.string (strOf l[k].1)) ∧ w.cell? ⟨b, off + k * 2 + 1, none⟩ = some (.string (strOf l[k].2)) := by
  obtain ⟨b, off, e, hb, hc⟩ := h.2.2 hn
  refine ⟨b, off, e, hb, fun k hk => ?_⟩
  have e0 : l[k]? = some l[k] := List.getElem?_eq_getElem hk
  have f := fun j hj => flat_at (enc := chCell) (size := 2) (fun _ => rfl) l k j _ e0 hj
  refine ⟨?_, ?_⟩
  · have := hc (k * 2 + 0) _ (f 0 (by omega)); simpa using this
  · have := hc (k * 2 + 1) _ (f 1 (by omega)); simpa [Nat.add_assoc] using this
theorem byte_in {D : List UInt8} {k : Nat} (h : k < (strOf D).size) : ((strOf D)[k]'h).toNat = (D.getD k 0).toNat := by
  have := get_byte (strOf D) k h
  rw [strOf_data'] at this
  rw [← this]
/-! ## ops that were gathered -/
theorem info_op : (Tryd.prog.info? 48).map (fun i => (i.zero, i.size, i.bytes)) = some (some (.agg #[.int .i64 0, .int .i64 0, .int .i64 0, .int .i64 0, .int .i64 0, .int .i64 0, .int .i64 0, .int .i64 0, .slice none 0 0]), 9, 88) := by kernel_rfl
/-- ops whose pixels lie apart from the slice v -/
def OpsHeld (w : World) (v : Value) (rs : List (FAt FOp)) : Prop := ∀ r ∈ rs, Pixs w r.A r.n r.x.pic.p ∧ r.n ≤ 100 ∧ (0 < r.n → ∀ a, r.A = some a → v.ownBlock ≠ some a.block)
theorem OpsHeld.nil (w : World) (v : Value) : OpsHeld w v [] := fun r hr => by simp at hr
theorem OpsHeld.below {w w' : World} {v : Value} {rs : List (FAt FOp)} (h : OpsHeld w v rs) (hb : Below w.heap.size w w') : OpsHeld w' v rs := fun r hr => ⟨(h r hr).1.below hb, (h r hr).2⟩
theorem pixs_grown {w w' : World} {A : Option Addr} {n : Nat} {l : List Px} {row : Option Nat} (h : Pixs w A n l) (hg : w.grownBy w' row) (hne : 0 < n → ∀ a, A = some a → row ≠ some a.block) : Pixs w' A n l := ⟨h.1, h.2.grown hg hne⟩
theorem pixs_lt {w : World} {A : Option Addr} {n : Nat} {l : List Px} (h : Pixs w A n l) (hn : 0 < n) {a : Addr} (ha : A = some a) : a.block < w.heap.size := by
  obtain ⟨b, off, e, hb, -⟩ := h.2.2 hn
  rw [e] at ha
  injection ha with ha
  subst ha
  exact hb
theorem OpsHeld.put {w w' : World} {v v' : Value} {rs : List (FAt FOp)} {r : FAt FOp} (h : OpsHeld w v rs) (hp : Pixs w r.A r.n r.x.pic.p) (hn : r.n ≤ 100) (ha : 0 < r.n → ∀ a, r.A = some a → v.ownBlock ≠ some a.block) (hg : w.grownBy w' v.ownBlock) (hv : v'.ownBlock = v.ownBlock ∨ v'.ownBlock = some w.heap.size) : OpsHeld w' v' (rs ++ [r]) := by
  have key : ∀ q : FAt FOp, Pixs w q.A q.n q.x.pic.p → (0 < q.n → ∀ a, q.A = some a → v.ownBlock ≠ some a.block) → Pixs w' q.A q.n q.x.pic.p ∧ (0 < q.n → ∀ a, q.A = some a → v'.ownBlock ≠ some a.block) := by
    intro q h1 h2
    refine ⟨pixs_grown h1 hg h2, fun h0 a ha => ?_⟩
    rcases hv with hv | hv
    · rw [hv]; exact h2 h0 a ha
    · rw [hv]
      have := pixs_lt h1 h0 ha
      intro e
      injection e with e
      omega
  intro q hq
  rcases List.mem_append.1 hq with hq | hq
  · have := h q hq
    have k := key q this.1 this.2.2
    exact ⟨k.1, this.2.1, k.2⟩
  · simp at hq
    subst hq
    have k := key q hp ha
    exact ⟨k.1, hn, k.2⟩
/-- the call returns ops, and what is wrong -/
def RetOpsE (x : List FOp × Nat) (w : World) (e : Ending) (w' : World) : Prop := ∃ (A : Option Addr) (n c : Nat) (rs : List (FAt FOp)), e = .returned (.tuple #[.slice A n c, errV x.2]) ∧ Ops w' A n rs ∧ datO rs = x.1 ∧ (∀ r ∈ rs, r.n ≤ 100) ∧ Below w.heap.size w w'
def RetOpsN (x : List FOp × Nat) (w : World) (e : Ending) (w' : World) : Prop := ∃ (A : Option Addr) (n c : Nat) (rs : List (FAt FOp)), e = .returned (.tuple #[.slice A n c, .int .i64 (x.2 : Int)]) ∧ Ops w' A n rs ∧ datO rs = x.1 ∧ (∀ r ∈ rs, r.n ≤ 100) ∧ Below w.heap.size w w'
theorem Ops.nil (w : World) (A : Option Addr) : Ops w A 0 [] := ⟨rfl, Row.none_ _ _ _, fun r hr => by simp at hr⟩
theorem retOpsE_bad {x : List FOp × Nat} {f : Nat} {w w' : World} (h : x = ([], f)) (hb : Below w.heap.size w w') : RetOpsE x w (.returned (.tuple #[.slice none 0 0, errV f])) w' := by
  subst h
  exact ⟨none, 0, 0, [], rfl, Ops.nil _ _, rfl, (fun r hr => by simp at hr), hb⟩
theorem retOpsN_bad {x : List FOp × Nat} {f : Nat} {w w' : World} (h : x = ([], f)) (hb : Below w.heap.size w w') : RetOpsN x w (.returned (.tuple #[.slice none 0 0, .int .i64 (f : Int)])) w' := by
  subst h
  exact ⟨none, 0, 0, [], rfl, Ops.nil _ _, rfl, (fun r hr => by simp at hr), hb⟩
theorem ops_own {w : World} {base : Nat} {A : Option Addr} {n c : Nat} {rs : List (FAt FOp)} (h : w.ownsRow base 48 9 (.slice A n c) n (rs.flatMap opCells)) (hn : rs.length = n) (hh : OpsHeld w (.slice A n c) rs) : Ops w A n rs := ⟨hn, Row.of_own h, fun r hr => (hh r hr).1⟩
end Fb

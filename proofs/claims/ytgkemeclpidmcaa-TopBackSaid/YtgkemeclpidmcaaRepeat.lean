/- slices.Repeat of one pixel, and blend.Plain: so many of that pixel, in new memory. Conditions: from 1 to 1000 pixels. -/
import Derived.Test.YtgkemeclpidmcaaBlendWalk
import Derived.Laws.CopyOwn
import Derived.Lib.Mul64
import Derived.Laws.Bits64b
import Derived.Deep.RegionLaw
namespace Fb
open Go Go.Proofs Go.RowKit Go.Sort
/-- copy of whole elements into a row's cells -/
theorem run_copy_rowS {P : Program} (w : World) (dT sT ty elem : TypeId) (g o dLen dCap : Nat) (a : Addr) (sLen sCap : Nat) (cur : Array Value) (t : TypeId) (size k : Nat) (cs : List Value)
    (hu : P.underlying dT = some (.slice elem)) (hs : (P.info? elem).map (·.size) = some size)
    (hg : w.heap[g]? = some (.cells cur t (0, 0))) (hk : k = Nat.min sLen dLen) (hn : cs.length = k * size)
    (hsrc : ∀ j v, cs[j]? = some v → w.cell? (a.add j) = some v) (hfit : o + cs.length ≤ cur.size) (h1 : ∀ v ∈ cs, v.oneCell' = true) :
    (Builtin.copy_ #[dT, sT] ty #[.slice (some ⟨g, o, none⟩) dLen dCap, .slice (some a) sLen sCap]).run P w =
      .ok (goInt k) (w.setRow g (cur.toList.take o ++ cs ++ cur.toList.drop (o + cs.length)).toArray) := by
  have hl := run_loadCells_list (P := P) w a cs hsrc
  have hst := run_storeCells_at P g o t cs 0 cur w hg (by simpa using hfit) h1
  cases hq : P.info? elem with
  | none => simp [hq] at hs
  | some i =>
    have hi : i.size = size := by simpa [hq] using hs
    rw [hn] at hl
    simp [Builtin.copy_, run_underlying hu, Builtin.lenOf, Builtin.firstCells, Go.sizeOf, Go.typeInfo, hq, hi, ← hk, hl, hst]
theorem wpList_copy_S {P : Program} {w : World} {ops : Array Oper} {rest : List Oper} {o : Oper} {a : Act} {Q : Exit → Act → World → Prop} (hgd : o.guard = none) (d s : Operand) (dT sT : TypeId)
    (ho : o.op = .call { callee := .builtin .copy, args := #[d, s], argTypes := #[dT, sT] }) (elem : TypeId) (size : Nat) (hu : P.underlying dT = some (.slice elem)) (hsz : (P.info? elem).map (·.size) = some size)
    (dp sp : Addr) (dLen dCap sLen sCap : Nat) (hd : a.eval d = .slice (some dp) dLen dCap) (hs : a.eval s = .slice (some sp) sLen sCap)
    (g off : Nat) (hdp : dp = ⟨g, off, none⟩) (cur : List Value) (t : TypeId) (hg : w.heap[g]? = some (.cells cur.toArray t (0, 0))) (cs : List Value) (k : Nat) (hk : k = Nat.min sLen dLen) (hn : cs.length = k * size)
    (hsrc : ∀ j v, cs[j]? = some v → w.cell? (sp.add j) = some v)
    (hfit : off + cs.length ≤ cur.length) (h1 : ∀ v ∈ cs, v.oneCell' = true) (B : Nat) (w0 : World) (hb : Below B w0 w) (hBg : B ≤ g)
    (h : ∀ w', Hid (w'.heap[g]? = some (.cells (splice cur off cs).toArray t (0, 0))) → Below B w0 w' → wpList P ops Q rest (a.put o.dst (goInt k)) w') :
    wpList P ops Q (o :: rest) a w := by
  subst hdp
  refine wpList_plain hgd fun K hK => ?_
  have hrun := run_copy_rowS (P := P) w dT sT o.type elem g off dLen dCap sp sLen sCap cur.toArray t size k cs hu hsz hg hk hn hsrc (by simpa using hfit) h1
  unfold Oper.wp
  simp [execOp, ho, resolve, invoke, builtin, hd, hs, hrun, Result.andThen]
  refine hK _ _ (h _ (show _ = _ by simpa [splice] using setRow_heap w g _ _ t _ hg) (below_setRow hb hBg _))
theorem step_copy_S {P : Program} {ops : Array Oper} {o : Oper} {a : Act} {w : World} {K : Act → World → Prop} {Q : Exit → Act → World → Prop} {E : Prop} (hgd : o.guard = none) (d s : Operand) (dT sT : TypeId)
    (ho : o.op = .call { callee := .builtin .copy, args := #[d, s], argTypes := #[dT, sT] }) (elem : TypeId) (size : Nat) (hu : P.underlying dT = some (.slice elem)) (hsz : (P.info? elem).map (·.size) = some size)
    (dp sp : Addr) (dLen dCap sLen sCap : Nat) (hd : a.eval d = .slice (some dp) dLen dCap) (hs : a.eval s = .slice (some sp) sLen sCap)
    (g off : Nat) (hdp : dp = ⟨g, off, none⟩) (cur : List Value) (t : TypeId) (hg : w.heap[g]? = some (.cells cur.toArray t (0, 0))) (cs : List Value) (k : Nat) (hk : k = Nat.min sLen dLen) (hn : cs.length = k * size)
    (hsrc : ∀ j v, cs[j]? = some v → w.cell? (sp.add j) = some v)
    (hfit : off + cs.length ≤ cur.length) (h1 : ∀ v ∈ cs, v.oneCell' = true) (B : Nat) (w0 : World) (hb : Below B w0 w) (hBg : B ≤ g)
    (h : ∀ w', Hid (w'.heap[g]? = some (.cells (splice cur off cs).toArray t (0, 0))) → Below B w0 w' → K (a.put o.dst (goInt k)) w') :
    if Region.wanted o (yielded ops a.tmps) = true then Oper.wp P o a w K Q else E := by
  subst hdp
  rw [if_pos (by simp [Region.wanted, hgd])]
  have hrun := run_copy_rowS (P := P) w dT sT o.type elem g off dLen dCap sp sLen sCap cur.toArray t size k cs hu hsz hg hk hn hsrc (by simpa using hfit) h1
  unfold Oper.wp
  simp [execOp, ho, resolve, invoke, builtin, hd, hs, hrun, Result.andThen]
  exact h _ (show _ = _ by simpa [splice] using setRow_heap w g _ _ t _ hg) (below_setRow hb hBg _)

namespace Mu
theorem maskN (a : Nat) (ha : a < 18446744073709551616) : bits .and .u64 (a : Int) 4294967295 = ((a % 4294967296 : Nat) : Int) := by
  have h := bits_and_u64_nat a 4294967295 ha (by omega)
  have e : a &&& 4294967295 = a % 4294967296 := Nat.and_two_pow_sub_one_eq_mod a 32
  rw [e] at h
  exact h
theorem divN (a : Nat) : (a : Int) / 4294967296 = ((a / 4294967296 : Nat) : Int) := by omega
theorem mulN (a b : Nat) : (a : Int) * (b : Int) = ((a * b : Nat) : Int) := (Int.natCast_mul a b).symm
theorem addN (a b : Nat) : (a : Int) + (b : Int) = ((a + b : Nat) : Int) := (Int.natCast_add a b).symm
theorem wrapN (a : Nat) (ha : a < 18446744073709551616) : IntKind.u64.wrap (a : Int) = (a : Int) := by rw [IntKind.wrap_u64]; omega
theorem wrapM (a : Nat) : IntKind.u64.wrap (a : Int) = ((a % 18446744073709551616 : Nat) : Int) := by rw [IntKind.wrap_u64]; omega
end Mu
set_option maxHeartbeats 1000000 in
theorem mul64_any (x y : Nat) (hx : x < 18446744073709551616) (hy : y < 18446744073709551616) (w : World) :
    Calls Try.prog 97 #[.int .u64 x, .int .u64 y] w fun e w' => e = .returned (.tuple #[.int .u64 ((x * y / 18446744073709551616 : Nat) : Int), .int .u64 ((x * y % 18446744073709551616 : Nat) : Int)]) ∧ w = w' := by
  obtain ⟨bd, bt, bw, hhi⟩ := Lib.mul64_hi x y hx hy
  have ba := Lib.half_mul_le (a := x / 4294967296) (b := y / 4294967296) (by omega) (by omega)
  have bb := Lib.half_mul_le (a := x / 4294967296) (b := y % 4294967296) (by omega) (by omega)
  have bc := Lib.half_mul_le (a := x % 4294967296) (b := y / 4294967296) (by omega) (by omega)
  have ba' : x / 4294967296 * (y / 4294967296) < 18446744073709551616 := by omega
  have bb' : x / 4294967296 * (y % 4294967296) < 18446744073709551616 := by omega
  have bc' : x % 4294967296 * (y / 4294967296) < 18446744073709551616 := by omega
  have bh1 : x / 4294967296 * (y / 4294967296) + (x / 4294967296 * (y % 4294967296) + x % 4294967296 * (y % 4294967296) / 4294967296) / 4294967296 < 18446744073709551616 := by omega
  have bh : x / 4294967296 * (y / 4294967296) + (x / 4294967296 * (y % 4294967296) + x % 4294967296 * (y % 4294967296) / 4294967296) / 4294967296 + ((x / 4294967296 * (y % 4294967296) + x % 4294967296 * (y % 4294967296) / 4294967296) % 4294967296 + x % 4294967296 * (y / 4294967296)) / 4294967296 < 18446744073709551616 := by omega
  go_enter Try.func97, Try.ntmps97
  go_wp2
  simp only [Mu.maskN x hx, Mu.maskN y hy, Mu.divN, Mu.mulN, Mu.addN, Mu.wrapN _ bd, Mu.wrapN _ bb', Mu.wrapN _ bt, Mu.maskN _ bt, Mu.wrapN _ bc', Mu.wrapN _ bw, Mu.wrapN _ ba', Mu.wrapN _ bh1, Mu.wrapN _ bh, Mu.wrapM (x * y)]
  rw [hhi]
  go_ret2
  exact ⟨rfl, rfl⟩
set_option maxHeartbeats 1000000 in
theorem mul1_any (n : Nat) (hn : n ≤ 1000) (w : World) :
    Calls Try.prog 93 #[.int .u64 1, .int .u64 n] w fun e w' => e = .returned (.tuple #[.int .u64 0, .int .u64 n]) ∧ w = w' := by
  have h := fun W => mul64_any 1 n (by omega) (by omega) W
  have e1 : ((1 * n / 18446744073709551616 : Nat) : Int) = 0 := by omega
  have e2 : ((1 * n % 18446744073709551616 : Nat) : Int) = (n : Int) := by omega
  rw [e1, e2] at h
  have H := hid h
  clear h e1 e2
  go_enter Try.func93, Try.ntmps93
  go_wp2_with fail
  go_wp2_with (go_at_call 97; refine (H.out _).mono ?_; rintro e w' ⟨rfl, rfl⟩)
  go_ret2
  exact ⟨rfl, rfl⟩
theorem pxCells_append (a b : List Px) : pxCells (a ++ b) = pxCells a ++ pxCells b := by simp [pxCells]
/-- k pixels of one kind, then zeros -/
def repCells (x : Px) (k m : Nat) : List Value := pxCells (List.replicate k x ++ List.replicate m (0, 0))
theorem repCells_len (x : Px) (k m : Nat) : (repCells x k m).length = (k + m) * 2 := by unfold repCells; rw [pxCells_len]; simp
theorem rep_splice (x : Px) (k m j : Nat) (hj : j ≤ m) : splice (repCells x k m) (k * 2) (pxCells (List.replicate j x)) = repCells x (k + j) (m - j) := by
  have e1 : (pxCells (List.replicate k x)).length = k * 2 := by rw [pxCells_len, List.length_replicate]
  have e2 : (pxCells (List.replicate j x)).length = j * 2 := by rw [pxCells_len, List.length_replicate]
  have e3 : (pxCells (List.replicate j ((0, 0) : Px))).length = j * 2 := by rw [pxCells_len, List.length_replicate]
  have e4 : repCells x k m = pxCells (List.replicate k x) ++ (pxCells (List.replicate j (0, 0)) ++ pxCells (List.replicate (m - j) (0, 0))) := by
    unfold repCells
    rw [pxCells_append, ← pxCells_append (List.replicate j _), List.replicate_append_replicate, show j + (m - j) = m by omega]
  have e5 : repCells x (k + j) (m - j) = pxCells (List.replicate k x) ++ (pxCells (List.replicate j x) ++ pxCells (List.replicate (m - j) (0, 0))) := by
    unfold repCells
    rw [pxCells_append, ← List.replicate_append_replicate, pxCells_append, List.append_assoc]
  unfold splice
  rw [e4, e5, e2, List.take_left' e1]
  have e6 : (pxCells (List.replicate k x) ++ pxCells (List.replicate j ((0, 0) : Px))).length = k * 2 + j * 2 := by rw [List.length_append, e1, e3]
  rw [show pxCells (List.replicate k x) ++ (pxCells (List.replicate j ((0, 0) : Px)) ++ pxCells (List.replicate (m - j) (0, 0))) = (pxCells (List.replicate k x) ++ pxCells (List.replicate j ((0, 0) : Px))) ++ pxCells (List.replicate (m - j) (0, 0)) by rw [List.append_assoc], List.drop_left' e6]
theorem info_size_px : (Try.prog.info? 42).map (·.size) = some 2 := by kernel_rfl
/-- the call returns so many of that pixel, in new memory -/
def RetRep (x : Px) (n : Nat) (w : World) (e : Ending) (w' : World) : Prop := ∃ g : Nat, e = .returned (.slice (some ⟨g, 0, none⟩) n n) ∧ w.heap.size ≤ g ∧ w'.heap[g]? = some (.cells (pxCells (List.replicate n x)).toArray 42 (0, 0)) ∧ Below w.heap.size w w'
theorem rep_at (i : Nat) : ∀ (n : Nat), (pxCells (List.replicate n (0, 0)))[i]? = if i < n * 2 then some (.int .i64 0) else none
  | 0 => by simp [pxCells]
  | n + 1 => by
    rw [List.replicate_succ', pxCells_append, List.getElem?_append, pxCells_len, List.length_replicate]
    by_cases h : i < n * 2
    · rw [if_pos h, rep_at i n, if_pos h, if_pos (by omega)]
    · rw [if_neg h]
      by_cases h2 : i < (n + 1) * 2
      · rw [if_pos h2]
        rcases (show i - n * 2 = 0 ∨ i - n * 2 = 1 by omega) with e | e <;> rw [e] <;> rfl
      · rw [if_neg h2, List.getElem?_eq_none (by simp [pxCells]; omega)]
theorem made_px (n : Nat) : (madeCells #[.int .i64 0, .int .i64 0] (n * 2)).toList = repCells (0, 0) 0 n := by
  unfold repCells madeCells
  simp only [List.replicate_zero, List.nil_append]
  apply List.ext_getElem?
  intro i
  rw [rep_at]
  simp only [Array.getElem?_toList, Array.getElem?_map, Array.getElem?_range]
  by_cases h : i < n * 2
  · rw [if_pos h, if_pos h]
    simp only [Option.map_some]
    rcases (show i % 2 = 0 ∨ i % 2 = 1 by omega) with e | e <;> simp [e]
  · rw [if_neg h, if_neg h]; rfl
theorem own_full {w : World} {base e size g n : Nat} {xs : List Value} (h : w.ownsRow base e size (.slice (some ⟨g, 0, none⟩) n n) n xs) : w.heap[g]? = some (.cells xs.toArray e (0, 0)) := by
  rcases h.2 with ⟨hv, h0⟩ | ⟨g', cap, cur, hv, hg, hh, hnc, hcm, hcs, ht⟩
  · cases hv
  · injection hv with h1 h2 h3
    injection h1 with h1
    injection h1 with h1
    subst h1 h3
    rw [← hcs, ← Array.length_toList, List.take_length] at ht
    rw [← ht]
    exact hh
theorem kept_cell {w w' : World} {B : Nat} (hb : Below B w w') {b o : Nat} {v : Value} (h : b < B) (hc : w.cell? ⟨b, o, none⟩ = some v) : w'.cell? ⟨b, o, none⟩ = some v := (hb.cell (p := ⟨b, o, none⟩) h).trans hc
theorem rep_step {k n : Nat} (h1 : 1 ≤ k) (h2 : k < n) : 1 ≤ k + Nat.min k (n - k) ∧ k + Nat.min k (n - k) ≤ n ∧ k < k + Nat.min k (n - k) := by
  show 1 ≤ k + min k (n - k) ∧ k + min k (n - k) ≤ n ∧ k < k + min k (n - k)
  omega
theorem rep_src {W : World} {g k m j : Nat} {x : Px} (h : W.heap[g]? = some (.cells (repCells x k m).toArray 42 (0, 0))) (hj : j ≤ k) : ∀ i v, (pxCells (List.replicate j x))[i]? = some v → W.cell? ((⟨g, 0, none⟩ : Addr).add i) = some v := by
  intro i v hv
  have e : repCells x k m = pxCells (List.replicate j x) ++ pxCells (List.replicate (k - j) x ++ List.replicate m (0, 0)) := by
    unfold repCells
    rw [← pxCells_append, ← List.append_assoc, List.replicate_append_replicate, show j + (k - j) = k by omega]
  have hi := (List.getElem?_eq_some_iff.1 hv).1
  have h2 : (repCells x k m)[i]? = some v := by rw [e, List.getElem?_append_left hi]; exact hv
  rw [show (⟨g, 0, none⟩ : Addr).add i = ⟨g, i, none⟩ from by
    unfold Addr.add
    by_cases h : i = 0
    · subst h; simp
    · rw [if_neg h]; simp]
  obtain ⟨h3, h4⟩ := List.getElem?_eq_some_iff.1 h2
  simp [World.cell?, h, h3, h4]
theorem rep_copy {w wr : World} {g k n j : Nat} {x : Px} (h1 : 1 ≤ k) (hj : Nat.min k (n - k) = j) (h : wr.drew.heap[g]? = some (.cells (repCells x k (n - k)).toArray 42 (0, 0))) (hb : Below w.heap.size w wr.drew) (hg : w.heap.size ≤ g) :
    ∃ w4, (Builtin.copy_ #[47, 47] 3 #[.slice (some ⟨g, k * 2, none⟩) (n - k) (n - k), .slice (some ⟨g, 0, none⟩) k n]).run Try.prog wr.drew = .ok (.int .i64 (j : Int)) w4 ∧ Hid (w4.heap[g]? = some (.cells (repCells x (k + j) (n - k - j)).toArray 42 (0, 0))) ∧ Below w.heap.size w w4 := by
  have h2 : min k (n - k) = j := hj
  have hl : (pxCells (List.replicate j x)).length = j * 2 := by rw [pxCells_len, List.length_replicate]
  have hf : k * 2 + (pxCells (List.replicate j x)).length ≤ (repCells x k (n - k)).length := by rw [hl, repCells_len]; omega
  refine ⟨_, run_copy_rowS (P := Try.prog) wr.drew 47 47 3 42 g (k * 2) (n - k) (n - k) ⟨g, 0, none⟩ k n (repCells x k (n - k)).toArray 42 2 j (pxCells (List.replicate j x)) Try.underlying47 info_size_px h hj.symm hl (rep_src h (by omega)) (by simpa using hf) (fun u hu => pxCells_cell hu), ?_, ?_⟩
  · have e := rep_splice x k (n - k) j (by omega)
    show _ = _
    rw [setRow_heap wr.drew g _ _ 42 _ h, ← e]
    simp [splice]
  · exact below_setRow hb hg _
set_option maxRecDepth 100000 in
set_option maxHeartbeats 1000000 in
theorem repeat_any (x : Px) (A : Option Addr) (c n : Nat) (w : World) (hl : Pixs w A 1 [x]) (hn : 1 ≤ n) (hn2 : n ≤ 1000) :
    Calls Try.prog 83 #[.slice A 1 c, .int .i64 n] w (RetRep x n w) := by
  obtain ⟨b, off, rfl, hb, hc⟩ := hl.open_ (by omega)
  obtain ⟨hc0, hc1⟩ := hc 0 (by simp)
  simp only [Nat.zero_mul, Nat.add_zero, List.getElem_cons_zero] at hc0 hc1
  clear hc hl
  obtain ⟨i0, hi, hz0, hz1, hz2⟩ := info_parts info_px
  have hmax : decide ((9223372036854775807 : Int) < (n : Int)) = false := by simp; omega
  go_enter Try.func83, Try.ntmps83
  go_upto_region 6 with (go_at_call 93; refine (mul1_any n hn2 _).mono ?_; rintro e w' ⟨rfl, rfl⟩)
  go_wp2_with (at_make; refine wpList_make_full _ rfl (.tmp 29) (.tmp 29) 47 rfl w.heap.size 42 i0 (.agg #[.int .i64 0, .int .i64 0]) 2 Try.underlying47 hi hz0 hz1 .i64 .i64 n n n rfl rfl rfl rfl ?b2 ?b3 (Nat.le_refl _) ?_)
  case b2 => rw [hz2]; omega
  case b3 => unfold maxLen; omega
  intro w1 hown hgrow
  have hb1 : Below w.heap.size w w1 := (Below.refl w.heap.size w).grown hgrow (Nat.le_refl _) (fun g hg => by cases hg)
  have hh := own_full hown
  rw [made_px] at hh
  have k0 := kept_cell hb1 hb hc0
  have k1 := kept_cell hb1 hb hc1
  have Hh := hid hh
  obtain ⟨g, hg⟩ : ∃ g, g = w.heap.size := ⟨_, rfl⟩
  have hgle : w.heap.size ≤ g := by omega
  rw [← hg] at Hh ⊢
  clear hg hh hown hgrow hc0 hc1
  go_wp2_with (refine wpList_copy_S (o := ⟨some 33, _, _, _, _, _⟩) rfl (.tmp 31) (.tmp 32) 47 47 rfl 42 2 Try.underlying47 info_size_px ⟨g, 0, none⟩ ⟨b, off, none⟩ n n 1 c rfl rfl g 0 rfl (repCells (0, 0) 0 n) 42 Hh.out (pxCells (List.replicate 1 x)) 1 ?c0 ?c1 ?c2 ?c3 (fun u hu => pxCells_cell hu) w.heap.size w hb1 ?c4 ?_)
  case c0 => show 1 = min 1 n; omega
  case c1 => rw [pxCells_len]; simp
  case c2 =>
    intro j v hv
    match j with
    | 0 => have e : v = .int .i64 x.1 := by simpa [pxCells] using hv.symm
           subst e; exact k0
    | 1 => have e : v = .int .i64 x.2 := by simpa [pxCells] using hv.symm
           subst e; exact k1
    | j + 2 => simp [pxCells] at hv
  case c3 => rw [pxCells_len, repCells_len]; simp; omega
  case c4 => exact hgle
  intro w2 Hh2 hb2
  have Hh3 : Hid (w2.heap[g]? = some (.cells (repCells x 1 (n - 1)).toArray 42 (0, 0))) := by
    have e := rep_splice x 0 n 1 hn
    have h := Hh2.out
    unfold repCells at h e
    simp only [List.replicate_zero, List.nil_append, Nat.zero_mul] at h e
    rw [show (List.replicate 1 x) = [x] from rfl] at e
    rw [e] at h
    exact h
  clear Hh Hh2 k0 k1 hb1 w1
  go_wp2_with fail
  go_loopw [8] (fun i wr => ∃ k : Nat, 1 ≤ k ∧ k ≤ n ∧ i = .int .i64 k ∧ Hid (wr.heap[g]? = some (.cells (repCells x k (n - k)).toArray 42 (0, 0))) ∧ Below w.heap.size w wr) (fun i _ => n - (intOf i).toNat)
  case atStart => exact ⟨1, by omega, hn, rfl, Hh3, hb2⟩
  case round =>
    clear Hh3 hb2
    obtain ⟨k, hk1, hk2, rfl, Hk, hbk⟩ := hrel
    by_cases hlt : k < n
    · have q1 : (0 : Int) ≤ (k : Int) := by omega
      have q2 : (k : Int) ≤ (n : Int) := by omega
      obtain ⟨j, hj⟩ : ∃ j, Nat.min k (n - k) = j := ⟨_, rfl⟩
      obtain ⟨s1, s2, s3⟩ := rep_step hk1 hlt
      rw [hj] at s1 s2 s3
      have Hj := hid hj
      clear hj
      have w1 : IntKind.i64.wrap ((k : Int) + (j : Int)) = (k : Int) + (j : Int) := IntWalk.i64_in _ (by omega)
      have hb3 := hbk.drew
      have hne : ¬ n = k := by omega
      obtain ⟨w4, hrun, Hk4, hb4⟩ := rep_copy (w := w) hk1 (Hj.out) Hk.out hb3 hgle
      have Hkj := hid (show n - (k + j) = n - k - j by omega)
      clear hb3 Hj
      go_wp2_with fail
      go_region
      go_wp2_with fail
      go_roundw
      case rel => exact ⟨k + j, s1, s2, by go_num, by rw [Hkj.out]; exact Hk4, hb4⟩
      case measure => simp [intOf]; omega
    · have e : k = n := by omega
      subst e
      have e0 : k - k = 0 := Nat.sub_self k
      rw [e0] at Hk
      have Hk2 := hid Hk.out
      unfold repCells at Hk2
      rw [List.replicate_zero, List.append_nil] at Hk2
      clear Hk e0
      go_wp2_with fail
      go_ret
      exact ⟨g, rfl, hgle, Hk2.out, hbk⟩
end Fb

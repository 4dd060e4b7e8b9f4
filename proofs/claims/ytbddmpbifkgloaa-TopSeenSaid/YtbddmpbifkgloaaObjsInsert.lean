/- slices.Clone and slices.Insert at objects: a slice of its own, with one element more. Conditions: the slice is the call's own; few elements. -/
import Derived.Test.YtbddmpbifkgloaaObjsMem
import Derived.Test.YtbddmpbifkgloaaRepeat
import Derived.Lib.Overlaps
import Derived.Lib.AppendZerosOnto
import Derived.Lib.Walk
namespace Fb
open Go Go.Proofs Go.RowKit Go.Sort
theorem info_ob : (Try.prog.info? 29).map (fun i => (i.zero, i.size, i.bytes)) = some (some (.agg #[.int .i64 0, .int .i64 0, .int .i64 0, .int .i64 0, .int .i64 0, .slice none 0 0, .int .i64 0, .int .i64 0, .int .i64 0, .int .i64 0, .bool false]), 11, 104) := by kernel_rfl
theorem info_size_ob : (Try.prog.info? 29).map (·.size) = some 11 := by kernel_rfl
theorem size_ob (w : World) : (Go.sizeOf 29).run Try.prog w = .ok 11 w := by kernel_rfl
theorem obCells_one {rs : List (FAt FObj)} {u : Value} (h : u ∈ rs.flatMap obCells) : u.oneCell' = true := by
  obtain ⟨r, _, hr⟩ := List.mem_flatMap.1 h
  simp [obCells] at hr
  rcases hr with rfl | rfl | rfl | rfl | rfl | rfl | rfl | rfl | rfl | rfl | rfl <;> rfl
theorem ob_len (rs : List (FAt FObj)) : (rs.flatMap obCells).length = rs.length * 11 := flat_len (enc := obCells) (fun _ => rfl) rs
theorem ob_take (rs : List (FAt FObj)) (i : Nat) : (rs.flatMap obCells).take (i * 11) = (rs.take i).flatMap obCells := by
  induction rs generalizing i with
  | nil => simp
  | cons r rs ih =>
    cases i with
    | zero => simp
    | succ i =>
      rw [List.flatMap_cons, List.take_succ_cons, List.flatMap_cons, ← ih i, List.take_append, show (obCells r).length = 11 from rfl, List.take_of_length_le (by show 11 ≤ _; omega), show (i + 1) * 11 - 11 = i * 11 by omega]
theorem ob_drop (rs : List (FAt FObj)) (i : Nat) : (rs.flatMap obCells).drop (i * 11) = (rs.drop i).flatMap obCells := by
  induction rs generalizing i with
  | nil => simp
  | cons r rs ih =>
    cases i with
    | zero => simp
    | succ i =>
      rw [List.flatMap_cons, List.drop_succ_cons, ← ih i, List.drop_append, show (obCells r).length = 11 from rfl, List.drop_of_length_le (by show 11 ≤ _; omega), show (i + 1) * 11 - 11 = i * 11 by omega, List.nil_append]
/-- a slice of its own that holds the objects -/
def OwnObjs (rs : List (FAt FObj)) (B : Nat) (w : World) (v : Value) : Prop := w.ownsRow B 29 11 v rs.length (rs.flatMap obCells)
def RetObjsOwn (rs : List (FAt FObj)) (w : World) (e : Ending) (w' : World) : Prop := ∃ v, e = .returned v ∧ OwnObjs rs w.heap.size w' v ∧ Below w.heap.size w w'
theorem OwnObjs.nil (B : Nat) (w : World) : OwnObjs [] B w (.slice none 0 0) := World.ownsRow_nil _ _ _ _
set_option maxRecDepth 100000 in
set_option maxHeartbeats 800000 in
theorem cloneob_any (A : Option Addr) (n c : Nat) (rs : List (FAt FObj)) (w : World) (hl : Objs w A n rs) (hn : n ≤ 1000000) :
    Calls Try.prog 36 #[.slice A n c] w (RetObjsOwn rs w) := by
  have Hl := hid hl.1
  obtain ⟨i0, hi, hz0, hz1, hz2⟩ := info_parts info_ob
  have hnil := fun W => Lib.run_eql_slice_nil (P := Try.prog) W 22 29 A n c 0 0 Try.underlying22
  cases A with
  | none =>
    have h0 : n = 0 := by
      rcases Nat.eq_zero_or_pos n with h0 | h0
      · exact h0
      · obtain ⟨_, _, e, _⟩ := hl.2.1.2 h0; cases e
    subst h0
    have hnil : rs = [] := List.eq_nil_of_length_eq_zero Hl.out
    subst hnil
    clear hl
    go_enter Try.func36, Try.ntmps36
    go_wp2
    go_ret
    exact ⟨_, rfl, OwnObjs.nil _ _, Below.refl _ _⟩
  | some a =>
    have hnews : ∀ j u, (rs.flatMap obCells)[j]? = some u → w.cell? (a.add j) = some u := by
      intro j u hu
      have hj := (List.getElem?_eq_some_iff.1 hu).1
      rw [ob_len, Hl.out] at hj
      obtain ⟨b, off, e, hb, hc⟩ := hl.2.1.2 (by omega)
      injection e with e
      subst e
      rw [show (⟨b, off, none⟩ : Addr).add j = ⟨b, off + j, none⟩ from by
        unfold Addr.add
        by_cases h : j = 0
        · subst h; simp
        · rw [if_neg h]]
      exact hc j u hu
    have hblk : n * 11 = (rs.flatMap obCells).length := by rw [ob_len, Hl.out]
    have hown0 := World.ownsRow_lit (base := w.heap.size) (e := 29) (size := 11) w #[] 0 (Nat.le_refl _) (by simp [maxLen]) rfl
    have Hnews := hid hnews
    have Hblk := hid hblk
    clear hnews hblk
    go_enter Try.func36, Try.ntmps36
    go_wp2_with (at_builtin; refine wpList_append_own _ rfl _ _ 22 rfl w.heap.size 29 i0 _ 11 104 Try.underlying22 hi hz0 hz1 hz2 rfl (by decide) _ _ _ rfl hown0 a n c (rs.flatMap obCells) rfl Hblk.out.symm ?c1 ?c2 ?c3 ?c4 ?c5 ?_)
    case c1 =>
      intro j u hu
      have h := Hnews.out j u hu
      have hlt := World.block_lt_of_cell? w _ h
      exact (((Below.refl w.heap.size w).alloc (Nat.le_refl _) (.cells #[] 29)).cell (p := a.add j) hlt).trans h
    case c2 => exact fun u q hq hu => obCells_one (rs := rs) (List.mem_flatMap.2 ⟨q, hq, hu⟩)
    case c3 => unfold maxLen; omega
    case c4 => omega
    intro v' w1 hown' hgrow _
    have hbel1 : Below w.heap.size w w1 := (((Below.refl w.heap.size w).alloc (Nat.le_refl _) (.cells #[] 29))).grown hgrow (by simp) (fun g hg => (hown0.lt g hg).1)
    have HO : w1.ownsRow w.heap.size 29 11 v' n (rs.flatMap obCells) := by simpa using hown'
    have HR : Hid (OwnObjs rs w.heap.size w1 v') := by unfold OwnObjs; rw [Hl.out]; exact HO
    clear hown' hgrow HO
    go_wp2_with fail
    go_ret
    exact ⟨_, rfl, HR.out, hbel1⟩
/-! ## splices -/
theorem ins_grow {cs vs Z1 Z2 : List Value} {a : Nat} (ha : a ≤ cs.length) (hz : Z1.length = vs.length + (cs.length - a)) :
    splice (splice (cs.take a ++ Z1 ++ Z2) a vs) (a + vs.length) (cs.drop a) = cs.take a ++ vs ++ cs.drop a ++ Z2 := by
  have e1 : splice (cs.take a ++ Z1 ++ Z2) a vs = cs.take a ++ (vs ++ (Z1.drop vs.length ++ Z2)) := by
    unfold splice
    have ht : (cs.take a).length = a := by rw [List.length_take]; omega
    rw [List.append_assoc, List.take_append, ht, Nat.sub_self, List.take_zero, List.append_nil, List.take_of_length_le (by omega), List.drop_append, ht, show a + vs.length - a = vs.length by omega, List.drop_of_length_le (by omega), List.nil_append,
      List.drop_append, show vs.length - Z1.length = 0 by omega, List.drop_zero]
  rw [e1]
  unfold splice
  have ht : (cs.take a ++ vs).length = a + vs.length := by rw [List.length_append, List.length_take]; omega
  have hd : (Z1.drop vs.length).length = (cs.drop a).length := by rw [List.length_drop, List.length_drop]; omega
  rw [← List.append_assoc (cs.take a) vs, List.take_append, ht, Nat.sub_self, List.take_zero, List.append_nil, List.take_of_length_le (by omega), List.drop_append, ht, List.drop_of_length_le (show (cs.take a ++ vs).length ≤ _ by omega), List.nil_append,
    show a + vs.length + (cs.drop a).length - (a + vs.length) = (Z1.drop vs.length).length by omega, List.drop_append, Nat.sub_self, List.drop_zero, List.drop_length, List.nil_append, ← List.append_assoc]
theorem ins_shift {cs vs R : List Value} {a : Nat} (ha : a ≤ cs.length) (hz : vs.length ≤ R.length) :
    splice (splice (cs ++ R) (a + vs.length) (cs.drop a)) a vs = cs.take a ++ vs ++ cs.drop a ++ R.drop vs.length := by
  have hd : (cs.drop a).length = cs.length - a := by rw [List.length_drop]
  have e1 : splice (cs ++ R) (a + vs.length) (cs.drop a) = (cs ++ R).take (a + vs.length) ++ (cs.drop a ++ R.drop vs.length) := by
    unfold splice
    rw [hd, show a + vs.length + (cs.length - a) = cs.length + vs.length by omega, List.drop_append, List.drop_of_length_le (show cs.length ≤ cs.length + vs.length by omega), List.nil_append, show cs.length + vs.length - cs.length = vs.length by omega]
  rw [e1]
  unfold splice
  have ht : ((cs ++ R).take (a + vs.length)).length = a + vs.length := by rw [List.length_take, List.length_append]; omega
  rw [List.take_append, ht, show a - (a + vs.length) = 0 by omega, List.take_zero, List.append_nil, List.take_take, show min a (a + vs.length) = a by omega, List.take_append, show a - cs.length = 0 by omega, List.take_zero, List.append_nil,
    List.drop_append, ht, Nat.sub_self, List.drop_zero, List.drop_of_length_le (by omega), List.nil_append]
  simp [List.append_assoc]
/-! ## Insert of one object -/
def RetIns (rs : List (FAt FObj)) (r : FAt FObj) (i B : Nat) (w : World) (e : Ending) (w' : World) : Prop := ∃ v, e = .returned v ∧ OwnObjs (rs.take i ++ r :: rs.drop i) B w' v ∧ Below B w w'
theorem ins_cells (rs : List (FAt FObj)) (r : FAt FObj) (i : Nat) : (rs.take i ++ r :: rs.drop i).flatMap obCells = (rs.flatMap obCells).take (i * 11) ++ obCells r ++ (rs.flatMap obCells).drop (i * 11) := by
  rw [List.flatMap_append, List.flatMap_cons, ob_take, ob_drop, List.append_assoc]
theorem cells_at {w : World} {g : Nat} {cur : List Value} {t : TypeId} (h : w.heap[g]? = some (.cells cur.toArray t (0, 0))) {k j : Nat} {u : Value} (hu : (cur.drop k)[j]? = some u) : w.cell? ((⟨g, k, none⟩ : Addr).add j) = some u := by
  rw [List.getElem?_drop] at hu
  rw [show (⟨g, k, none⟩ : Addr).add j = ⟨g, k + j, none⟩ from by
    unfold Addr.add
    by_cases h : j = 0
    · subst h; simp
    · rw [if_neg h]]
  obtain ⟨h3, h4⟩ := List.getElem?_eq_some_iff.1 hu
  simp [World.cell?, h, h3, h4]
theorem shape_at {w : World} {g : Nat} {cur : Array Value} {t : TypeId} (h : w.heap[g]? = some (.cells cur t (0, 0))) : w.shape? g = some (t, cur.size) := by simp [World.shape?, h]
theorem unfrozen_at {w : World} {g : Nat} {cur : Array Value} {t : TypeId} (h : w.heap[g]? = some (.cells cur t (0, 0))) (o : Nat) : w.frozen? ⟨g, o, none⟩ = false := by simp [World.frozen?, h]
theorem own_form {w : World} {B n : Nat} {V : Value} {xs : List Value} (h : w.ownsRow B 29 11 V n xs) : (V = .slice none 0 0 ∧ n = 0) ∨ ∃ g c, V = .slice (some ⟨g, 0, none⟩) n c ∧ B ≤ g ∧ g < w.heap.size ∧ n ≤ c ∧ c ≤ maxLen ∧
    ∃ R : List Value, w.heap[g]? = some (.cells (xs ++ R).toArray 29 (0, 0)) ∧ R.length + n * 11 = c * 11 := by
  obtain ⟨hx, h⟩ := h
  rcases h with h | ⟨g, cap, cur, rfl, hg, hh, hnc, hcm, hcs, ht⟩
  · exact Or.inl h
  · refine Or.inr ⟨g, cap, rfl, hg, (Array.getElem?_eq_some_iff.1 hh).1, hnc, hcm, cur.toList.drop (n * 11), ?_, ?_⟩
    · rw [hh, ← ht, List.take_append_drop]
    · rw [List.length_drop, Array.length_toList, hcs]
      have := Nat.mul_le_mul_right 11 hnc
      omega
theorem own_of {w : World} {B n g c : Nat} {xs R : List Value} (hB : B ≤ g) (hh : w.heap[g]? = some (.cells (xs ++ R).toArray 29 (0, 0))) (hx : xs.length = n * 11) (hnc : n ≤ c) (hcm : c ≤ maxLen) (hR : R.length + n * 11 = c * 11) :
    w.ownsRow B 29 11 (.slice (some ⟨g, 0, none⟩) n c) n xs :=
  ⟨hx, Or.inr ⟨g, c, (xs ++ R).toArray, rfl, hB, hh, hnc, hcm, by simp; omega, by simp [hx]⟩⟩
set_option maxRecDepth 100000 in
set_option maxHeartbeats 800000 in
/-- one more behind the last -/
theorem insert_end (rs : List (FAt FObj)) (n : Nat) (hN : rs.length = n) (r : FAt FObj) (B : Nat) (V : Value) (vb : Nat) (w : World) (hn : n ≤ 1000) (hB : B ≤ w.heap.size) (h : OwnObjs rs B w V) (hv : w.heap[vb]? = some (.cells (obCells r).toArray 29 (0, 0))) :
    Calls Try.prog 37 #[V, .int .i64 n, .slice (some ⟨vb, 0, none⟩) 1 1] w (RetIns rs r n B w) := by
  obtain ⟨i0, hi, hz0, hz1, hz2⟩ := info_parts info_ob
  unfold OwnObjs at h
  rw [hN] at h
  have hlt := h.lt
  have hnews : ∀ j u, (obCells r)[j]? = some u → w.cell? ((⟨vb, 0, none⟩ : Addr).add j) = some u := fun j u hu => cells_at hv (k := 0) (by simpa using hu)
  have Hnews := hid hnews
  have Hfin := hid (ins_cells rs r n)
  have Hl2 := hid (show (rs.take n ++ r :: rs.drop n).length = n + 1 by rw [List.length_append, List.length_take, List.length_cons, List.length_drop]; omega)
  have Hl3 := hid (show (rs.flatMap obCells).take (n * 11) ++ obCells r ++ (rs.flatMap obCells).drop (n * 11) = rs.flatMap obCells ++ obCells r by
    rw [← hN, ← ob_len, List.take_length, List.drop_length, List.append_nil])
  have HL := hid hlt
  have HO := hid h
  clear hlt hnews hv hN
  rcases own_form HO.out with ⟨rfl, rfl⟩ | ⟨g, c, rfl, hg, hgs, hnc, hcm, -⟩
  · go_enter Try.func37, Try.ntmps37
    clear h
    go_wp2_with (at_builtin; refine wpList_append_own _ rfl _ _ 22 rfl B 29 i0 _ 11 104 Try.underlying22 hi hz0 hz1 hz2 rfl (by decide) _ _ _ rfl HO.out ⟨vb, 0, none⟩ 1 1 (obCells r) rfl rfl ?c1 ?c2 ?c3 ?c4 ?c5 ?_)
    case c1 => exact Hnews.out
    case c2 => exact fun u hu => obCells_one (rs := [r]) (by simpa using hu)
    case c3 => unfold maxLen; omega
    case c4 => omega
    case c5 => exact hB
    intro v' w1 hown' hgrow _
    have hb1 : Below B w w1 := (Below.refl B w).grown hgrow hB (fun g hg => (HL.out g hg).1)
    have HR : Hid (OwnObjs (rs.take 0 ++ r :: rs.drop 0) B w1 v') := by
      unfold OwnObjs
      rw [Hl2.out, Hfin.out, Hl3.out]
      exact hown'
    clear hown' hgrow
    go_wp2_with fail
    go_ret
    exact ⟨_, rfl, HR.out, hb1⟩
  · clear h
    unfold maxLen at hcm
    by_cases hcn : c = n
    all_goals
      go_enter Try.func37, Try.ntmps37
      go_wp2_with (at_builtin; refine wpList_append_own _ rfl _ _ 22 rfl B 29 i0 _ 11 104 Try.underlying22 hi hz0 hz1 hz2 rfl (by decide) _ _ _ rfl HO.out ⟨vb, 0, none⟩ 1 1 (obCells r) rfl rfl Hnews.out (fun u hu => obCells_one (rs := [r]) (by simpa using hu)) (by unfold maxLen; omega) (by omega) hB ?_)
      intro v' w1 hown' hgrow _
      have hb1 : Below B w w1 := (Below.refl B w).grown hgrow hB (fun g hg => (HL.out g hg).1)
      have HR : Hid (OwnObjs (rs.take n ++ r :: rs.drop n) B w1 v') := by
        unfold OwnObjs
        rw [Hl2.out, Hfin.out, Hl3.out]
        exact hown'
      clear hown' hgrow
      go_wp2_with fail
      go_ret
      exact ⟨_, rfl, HR.out, hb1⟩
/-- copy of whole elements into a row, the row as a list -/
theorem copy_into {w : World} {g o dLen dCap sLen sCap k : Nat} {a : Addr} {cur cs : List Value} (hg : w.heap[g]? = some (.cells cur.toArray 29 (0, 0))) (hk : k = Nat.min sLen dLen) (hn : cs.length = k * 11)
    (hsrc : ∀ j v, cs[j]? = some v → w.cell? (a.add j) = some v) (hfit : o + cs.length ≤ cur.length) (h1 : ∀ v ∈ cs, v.oneCell' = true) :
    ∃ w4, (Builtin.copy_ #[22, 22] 3 #[.slice (some ⟨g, o, none⟩) dLen dCap, .slice (some a) sLen sCap]).run Try.prog w = .ok (.int .i64 (k : Int)) w4 ∧
      Hid (w4.heap[g]? = some (.cells (splice cur o cs).toArray 29 (0, 0))) ∧ Hid (∀ b, b ≠ g → w4.heap[b]? = w.heap[b]?) ∧ Hid (∀ B w0, Below B w0 w → B ≤ g → Below B w0 w4) := by
  refine ⟨_, run_copy_rowS (P := Try.prog) w 22 22 3 29 g o dLen dCap a sLen sCap cur.toArray 29 11 k cs Try.underlying22 info_size_ob hg hk hn hsrc (by simpa using hfit) h1, ?_, ?_, ?_⟩
  · show _ = _
    rw [setRow_heap w g _ _ 29 _ hg]; simp [splice]
  · exact fun b hb => setRow_other w g b _ hb
  · exact fun B w0 hb hB => below_setRow hb hB _
theorem cells_list {w : World} {g : Nat} {cur : List Value} {t : TypeId} (h : w.heap[g]? = some (.cells cur.toArray t (0, 0))) {j : Nat} {u : Value} (hu : cur[j]? = some u) : w.cell? ((⟨g, 0, none⟩ : Addr).add j) = some u := cells_at h (k := 0) (by simpa using hu)
set_option maxRecDepth 100000 in
set_option maxHeartbeats 1600000 in
/-- one more between: there is room -/
theorem insert_shift (rs : List (FAt FObj)) (n : Nat) (hN : rs.length = n) (r : FAt FObj) (B i g c : Nat) (R : List Value) (vb : Nat) (w : World) (hn : n ≤ 1000) (hin : i < n) (hg : B ≤ g) (hroom : n + 1 ≤ c) (hcm : c ≤ maxLen)
    (hh : w.heap[g]? = some (.cells (rs.flatMap obCells ++ R).toArray 29 (0, 0))) (hR : R.length + n * 11 = c * 11) (hne : vb ≠ g) (hv : w.heap[vb]? = some (.cells (obCells r).toArray 29 (0, 0))) :
    Calls Try.prog 37 #[.slice (some ⟨g, 0, none⟩) n c, .int .i64 i, .slice (some ⟨vb, 0, none⟩) 1 1] w (RetIns rs r i B w) := by
  have hcl : (rs.flatMap obCells).length = n * 11 := by rw [ob_len, hN]
  have hdl : ((rs.flatMap obCells).drop (i * 11)).length = (n - i) * 11 := by rw [List.length_drop, hcl, ← Nat.sub_mul]
  have hks : (rs.flatMap obCells ++ R).length = c * 11 := by rw [List.length_append, hcl]; omega
  have hol : (obCells r).length = 11 := rfl
  have hov : ∀ lb cb, (callFunc 56 #[.slice (some ⟨vb, 0, none⟩) 1 1, .slice (some ⟨g, (i + 1) * 11, none⟩) lb cb]).run Try.prog w = .ok (.value (.bool false)) w := fun lb cb => by
    rw [run_callFunc_extern Try.func56 (by kernel_rfl) (by kernel_rfl) (by kernel_rfl) (e := Extern.SlicesOverlaps.overlaps #[22, 22] #[4]) (by kernel_rfl),
      Lib.run_overlaps_apart w 22 4 29 Try.underlying22 11 size_ob ⟨vb, 0, none⟩ ⟨g, (i + 1) * 11, none⟩ 1 1 lb cb hne _ _ _ _ (shape_at hv) (shape_at hh) (by rw [List.size_toArray, hks]; omega) (unfrozen_at hv _) (unfrozen_at hv _)]
    rfl
  unfold maxLen at hcm
  have hsp2 := ins_shift (cs := rs.flatMap obCells) (vs := obCells r) (R := R) (a := i * 11) (by rw [hcl]; omega) (by rw [hol]; omega)
  rw [hol, show i * 11 + 11 = (i + 1) * 11 by omega] at hsp2
  obtain ⟨w4, hrun4, hh4, ho4, hb4⟩ := copy_into (w := w.drew) (o := (i + 1) * 11) (dLen := n - i) (dCap := c - (i + 1)) (sLen := n + 1 - i) (sCap := c - i) (k := n - i) (a := ⟨g, i * 11, none⟩) (cs := (rs.flatMap obCells).drop (i * 11)) hh
    (by simp only [Nat.min_def]; split <;> omega) hdl (fun j u hu => cells_at (w := w.drew) hh (k := i * 11) (by
      rw [List.drop_append, List.getElem?_append_left (List.getElem?_eq_some_iff.1 hu).1]; exact hu)) (by rw [hdl, hks]; omega) (fun u hu => obCells_one (List.mem_of_mem_drop hu))
  have hv4 : w4.heap[vb]? = some (.cells (obCells r).toArray 29 (0, 0)) := (ho4.out vb hne).trans hv
  have hl4 : (splice (rs.flatMap obCells ++ R) ((i + 1) * 11) ((rs.flatMap obCells).drop (i * 11))).length = c * 11 := by rw [length_splice _ _ _ (by rw [hdl, hks]; omega), hks]
  obtain ⟨w5, hrun5, hh5, ho5, hb5⟩ := copy_into (w := w4) (o := i * 11) (dLen := n + 1 - i) (dCap := c - i) (sLen := 1) (sCap := 1) (k := 1) (a := ⟨vb, 0, none⟩) (cs := obCells r) hh4.out
    (by simp only [Nat.min_def]; split <;> omega) hol (fun j u hu => cells_list hv4 hu) (by rw [hol, hl4]; omega) (fun u hu => obCells_one (rs := [r]) (by simpa using hu))
  have hbel := hb5.out B w (hb4.out B w (Below.refl B w).drew hg) hg
  have hR2 : Hid (OwnObjs (rs.take i ++ r :: rs.drop i) B w5 (.slice (some ⟨g, 0, none⟩) (n + 1) c)) := by
    unfold OwnObjs
    have e := hh5.out
    rw [hsp2] at e
    have hl : (rs.take i ++ r :: rs.drop i).length = n + 1 := by rw [List.length_append, List.length_take, List.length_cons, List.length_drop]; omega
    rw [hl]
    refine own_of (R := R.drop 11) hg ?_ (by rw [ob_len, hl]) hroom (by unfold maxLen; omega) (by rw [List.length_drop]; omega)
    rw [ins_cells]
    exact e
  clear hh hv hsp2 hh4 ho4 hb4 hv4 hl4 hh5 ho5 hb5 hcl hdl hks hol hN
  have b1 : (0 : Int) ≤ (i : Int) := by omega
  have b2 : (i : Int) < (n : Int) := by omega
  have b3 : (n : Int) + 1 ≤ (c : Int) := by omega
  have b4 : ¬ c = i + 1 := by omega
  have b5 : ¬ c = i := by omega
  have w1 : IntKind.i64.wrap ((i : Int) + 1) = (i : Int) + 1 := IntWalk.i64_in _ (by omega)
  go_enter Try.func37, Try.ntmps37
  go_wp2_with (simp only [hov])
  go_region
  go_wp2_with fail
  go_ret
  exact ⟨_, rfl, hR2.out, hbel⟩
theorem arr_cat (l : List Value) (a b : Array Value) : l.toArray ++ a ++ b = (l ++ a.toList ++ b.toList).toArray := by apply Array.ext'; simp
theorem zeros_len (z : Array Value) (k : Nat) (h : z.size = 11) : (Builtin.zeroCells z k).toList.length = k * 11 := by rw [Array.length_toList, size_zeroCells, h]
set_option maxRecDepth 100000 in
set_option maxHeartbeats 1600000 in
/-- one more between: there is no room -/
theorem insert_grow (rs : List (FAt FObj)) (n : Nat) (hN : rs.length = n) (r : FAt FObj) (B i g : Nat) (R : List Value) (vb : Nat) (w : World) (hn : n ≤ 1000) (hin : i < n) (hB : B ≤ w.heap.size) (hgs : g < w.heap.size)
    (hh : w.heap[g]? = some (.cells (rs.flatMap obCells ++ R).toArray 29 (0, 0))) (hv : w.heap[vb]? = some (.cells (obCells r).toArray 29 (0, 0))) :
    Calls Try.prog 37 #[.slice (some ⟨g, 0, none⟩) n n, .int .i64 i, .slice (some ⟨vb, 0, none⟩) 1 1] w (RetIns rs r i B w) := by
  have hcl : (rs.flatMap obCells).length = n * 11 := by rw [ob_len, hN]
  have hdl : ((rs.flatMap obCells).drop (i * 11)).length = (n - i) * 11 := by rw [List.length_drop, hcl, ← Nat.sub_mul]
  have htl : ((rs.flatMap obCells).take (i * 11)).length = i * 11 := by rw [List.length_take, hcl]; omega
  have hol : (obCells r).length = 11 := rfl
  have hvs : vb < w.heap.size := (Array.getElem?_eq_some_iff.1 hv).1
  obtain ⟨i0, hi0, hz0, hz1, hz2⟩ := info_parts info_ob
  have hold : (Builtin.firstCells i0.size i (.slice (some ⟨g, 0, none⟩) i n)).run Try.prog w.drew = .ok ((rs.flatMap obCells).take (i * 11)).toArray w.drew := by
    rw [hz1]
    exact run_firstCells_some w.drew 11 i ⟨g, 0, none⟩ i n _ htl (fun j u hu => cells_list (w := w.drew) hh (by
      rw [List.getElem?_append_left (by have := (List.getElem?_eq_some_iff.1 hu).1; rw [htl] at this; rw [hcl]; omega)]
      rw [List.getElem?_take] at hu
      split at hu
      · exact hu
      · cases hu))
  have hrz := Lib.run_append_grow_zeros w 22 3 22 29 i0 _ .i64 .i64 Try.underlying22 Try.underlying3 hi0 hz0 (some ⟨g, 0, none⟩) i n _ hold (n + 1 - i) (by omega) (by rw [hz1]; omega) (by omega) (by omega) (by rw [hz2]; omega) (by rw [hz2]; exact growslice_fits (by omega) (by omega))
  rw [show i + (n + 1 - i) = n + 1 by omega] at hrz
  obtain ⟨G, hG⟩ : ∃ G, G = grownCap w (n + 1) n 29 := ⟨_, rfl⟩
  have hG1 : n + 1 ≤ G := by rw [hG]; exact grownCap_ge _ _ _ _
  have hG2 : G ≤ maxLen := by rw [hG]; exact grownCap_le_maxLen _ _ _ _ (by unfold maxLen; omega)
  rw [← hG] at hrz
  clear hG hold
  have hZ1 := fun k => zeros_len (Value.cells (.agg #[.int .i64 0, .int .i64 0, .int .i64 0, .int .i64 0, .int .i64 0, .slice none 0 0, .int .i64 0, .int .i64 0, .int .i64 0, .int .i64 0, .bool false])) k rfl
  obtain ⟨Z1, hZ1d⟩ : ∃ Z1, Z1 = (Builtin.zeroCells (Value.cells (.agg #[.int .i64 0, .int .i64 0, .int .i64 0, .int .i64 0, .int .i64 0, .slice none 0 0, .int .i64 0, .int .i64 0, .int .i64 0, .int .i64 0, .bool false])) (n + 1 - i)).toList := ⟨_, rfl⟩
  obtain ⟨Z2, hZ2d⟩ : ∃ Z2, Z2 = (Builtin.zeroCells (Value.cells (.agg #[.int .i64 0, .int .i64 0, .int .i64 0, .int .i64 0, .int .i64 0, .slice none 0 0, .int .i64 0, .int .i64 0, .int .i64 0, .int .i64 0, .bool false])) (G - (n + 1))).toList := ⟨_, rfl⟩
  have hl1 : Z1.length = (n + 1 - i) * 11 := by rw [hZ1d]; exact hZ1 _
  have hl2 : Z2.length = (G - (n + 1)) * 11 := by rw [hZ2d]; exact hZ1 _
  have hW : ∃ W1, W1 = w.drew.alloc (.cells ((rs.flatMap obCells).take (i * 11) ++ Z1 ++ Z2).toArray 29) := ⟨_, rfl⟩
  obtain ⟨W1, hW1⟩ := hW
  have hrz2 : (Builtin.append_ #[22, 3] 22 #[.slice (some ⟨g, 0, none⟩) i n, .int .i64 ((n + 1 - i : Nat) : Int)]).run Try.prog w = .ok (.slice (some ⟨w.heap.size, 0, none⟩) (n + 1) G) W1 := by
    rw [hrz, hW1, hZ1d, hZ2d, arr_cat]
  clear hrz hZ1 hZ1d hZ2d hz0 hi0
  have hN1 : W1.heap[w.heap.size]? = some (.cells ((rs.flatMap obCells).take (i * 11) ++ Z1 ++ Z2).toArray 29 (0, 0)) := by rw [hW1]; exact heap_alloc_new w.drew _
  have hg1 : W1.heap[g]? = some (.cells (rs.flatMap obCells ++ R).toArray 29 (0, 0)) := by
    rw [hW1]; exact (((Below.refl w.heap.size w).drew).alloc (Nat.le_refl _) _).block g hgs |>.trans hh
  have hv1 : W1.heap[vb]? = some (.cells (obCells r).toArray 29 (0, 0)) := by
    rw [hW1]; exact (((Below.refl w.heap.size w).drew).alloc (Nat.le_refl _) _).block vb hvs |>.trans hv
  have hb1 : Below B w W1 := by rw [hW1]; exact ((Below.refl B w).drew).alloc hB _
  clear hW1
  have hsp := ins_grow (cs := rs.flatMap obCells) (vs := obCells r) (Z1 := Z1) (Z2 := Z2) (a := i * 11) (by rw [hcl]; omega) (by rw [hol, hl1, hcl]; omega)
  rw [hol, show i * 11 + 11 = (i + 1) * 11 by omega] at hsp
  have hks : ((rs.flatMap obCells).take (i * 11) ++ Z1 ++ Z2).length = G * 11 := by rw [List.length_append, List.length_append, htl, hl1, hl2]; omega
  obtain ⟨w4, hrun4, hh4, ho4, hb4⟩ := copy_into (w := W1) (o := i * 11) (dLen := n + 1 - i) (dCap := G - i) (sLen := 1) (sCap := 1) (k := 1) (a := ⟨vb, 0, none⟩) (cs := obCells r) hN1
    (by simp only [Nat.min_def]; split <;> omega) hol (fun j u hu => cells_list hv1 hu) (by rw [hol, hks]; omega) (fun u hu => obCells_one (rs := [r]) (by simpa using hu))
  have hg4 : w4.heap[g]? = some (.cells (rs.flatMap obCells ++ R).toArray 29 (0, 0)) := (ho4.out g (by omega)).trans hg1
  have hl4 : (splice ((rs.flatMap obCells).take (i * 11) ++ Z1 ++ Z2) (i * 11) (obCells r)).length = G * 11 := by rw [length_splice _ _ _ (by rw [hol, hks]; omega), hks]
  obtain ⟨w5, hrun5, hh5, ho5, hb5⟩ := copy_into (w := w4.drew) (o := (i + 1) * 11) (dLen := n - i) (dCap := G - (i + 1)) (sLen := n - i) (sCap := n - i) (k := n - i) (a := ⟨g, i * 11, none⟩) (cs := (rs.flatMap obCells).drop (i * 11)) hh4.out
    (by simp only [Nat.min_def]; split <;> omega) hdl (fun j u hu => cells_at (w := w4.drew) hg4 (k := i * 11) (by
      rw [List.drop_append, List.getElem?_append_left (List.getElem?_eq_some_iff.1 hu).1]; exact hu)) (by rw [hdl, hl4]; omega) (fun u hu => obCells_one (List.mem_of_mem_drop hu))
  have hbel := hb5.out B w ((hb4.out B w hb1 hB).drew) hB
  have hR2 : Hid (OwnObjs (rs.take i ++ r :: rs.drop i) B w5 (.slice (some ⟨w.heap.size, 0, none⟩) (n + 1) G)) := by
    unfold OwnObjs
    have e := hh5.out
    rw [hsp] at e
    have hl : (rs.take i ++ r :: rs.drop i).length = n + 1 := by rw [List.length_append, List.length_take, List.length_cons, List.length_drop]; omega
    rw [hl]
    refine own_of (R := Z2) hB ?_ (by rw [ob_len, hl]) hG1 hG2 (by omega)
    rw [ins_cells]
    exact e
  clear hh hv hsp hh4 ho4 hb4 hg4 hl4 hh5 ho5 hb5 hcl hdl hks hol hN hN1 hg1 hv1 hb1 hl1 hl2 htl
  unfold maxLen at hG2
  have b1 : (0 : Int) ≤ (i : Int) := by omega
  have b2 : (i : Int) < (n : Int) := by omega
  have b4 : ¬ G = i + 1 := by omega
  have b5 : ¬ G = i := by omega
  have b6 : ¬ n = i := by omega
  have hkk : (n : Int) + 1 - (i : Int) = ((n + 1 - i : Nat) : Int) := by omega
  have w1 : IntKind.i64.wrap ((i : Int) + 1) = (i : Int) + 1 := IntWalk.i64_in _ (by omega)
  go_enter Try.func37, Try.ntmps37
  go_wp2_with (at_builtin; refine Lib.wpList_append_run _ rfl _ _ _ _ rfl _ _ rfl rfl _ _ hrz2 ?_)
  go_region
  go_wp2_with fail
  go_ret
  exact ⟨_, rfl, hR2.out, hbel⟩
/-- slices.Insert of one object -/
theorem insert_any (rs : List (FAt FObj)) (r : FAt FObj) (B i : Nat) (V : Value) (vb : Nat) (w : World) (hn : rs.length ≤ 1000) (hi : i ≤ rs.length) (hB : B ≤ w.heap.size) (h : OwnObjs rs B w V) (hne : ∀ g, V.ownBlock = some g → vb ≠ g)
    (hv : w.heap[vb]? = some (.cells (obCells r).toArray 29 (0, 0))) :
    Calls Try.prog 37 #[V, .int .i64 i, .slice (some ⟨vb, 0, none⟩) 1 1] w (RetIns rs r i B w) := by
  by_cases he : i = rs.length
  · subst he
    exact insert_end rs _ rfl r B V vb w hn hB h hv
  · rcases own_form h with ⟨rfl, h0⟩ | ⟨g, c, rfl, hg, hgs, hnc, hcm, R, hh, hR⟩
    · omega
    · by_cases hc : rs.length + 1 ≤ c
      · exact insert_shift rs _ rfl r B i g c R vb w hn (by omega) hg hc hcm hh hR (hne g rfl) hv
      · obtain rfl : c = rs.length := by omega
        exact insert_grow rs _ rfl r B i g R vb w hn (by omega) hB hgs hh hv
end Fb

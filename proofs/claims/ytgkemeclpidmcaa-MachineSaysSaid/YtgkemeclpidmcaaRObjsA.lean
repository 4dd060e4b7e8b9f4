/- ref.GetObject, ref.SetObject: they return what the plain law says. Conditions: numbers rise; few objects. ref.DoObject: it returns what the plain law says. Conditions: objects that may be and rise, an op that may be. ref.DoObject: it returns what the plain law says, whatever the op. Conditions: objects that may be and rise, an op that may be. -/
import Derived.Test.YtgkemeclpidmcaaObjsA
import Derived.BigQuiet
import Derived.Test.YtgkemeclpidmcaaObjsB
import Derived.Test.YtgkemeclpidmcaaChangedPut
set_option linter.unusedSimpArgs false
set_option linter.unusedVariables false
namespace Fb
open Go Go.Proofs Go.RowKit Go.Sort
theorem getR_hit {id : Int} {rs : List (FAt FObj)} {k : Nat} (h : k < rs.length) (hz : ∀ j (h : j < rs.length), j < k → rs[j].x.id ≠ id) (he : rs[k].x.id = id) : getR id rs = some rs[k] := by
  unfold getR
  rw [List.find?_eq_some_iff_getElem]
  exact ⟨by simpa using he, k, h, rfl, fun j hj => by simpa using hz j (by omega) hj⟩
theorem getR_none {id : Int} {rs : List (FAt FObj)} (hz : ∀ j (h : j < rs.length), rs[j].x.id ≠ id) : getR id rs = none := by
  unfold getR
  rw [List.find?_eq_none]
  intro r hr
  obtain ⟨j, hj, rfl⟩ := List.getElem_of_mem hr
  simpa using hz j hj
set_option maxRecDepth 100000 in
set_option maxHeartbeats 1600000 in
theorem rget_any (A : Option Addr) (n c : Nat) (rs : List (FAt FObj)) (t : Int) (w : World) (h : Objs w A n rs) (_hr : Rise (dat rs)) (hn : n ≤ 1000) :
    Calls Try.prog 54 #[.slice A n c, .int .i64 t] w (Ret (getV (getR t rs)) w) := by
  have Hl := hid h.1
  have HO := hid h
  clear h
  go_enter Try.func54, Try.ntmps54
  go_wp2_with fail
  go_loop [6] (fun i => ∃ k : Nat, k ≤ n ∧ i = .int .i64 k ∧ Hid (∀ j (h : j < rs.length), j < k → rs[j].x.id ≠ t)) (fun i => n - (intOf i).toNat)
  case atStart => exact ⟨0, by omega, rfl, hid (fun j h hj => absurd hj (by omega))⟩
  case round =>
    obtain ⟨k, hk, rfl, hz⟩ := hrel
    by_cases hlt : k < n
    · have k1 : k < rs.length := by rw [Hl.out]; exact hlt
      obtain ⟨b, off, rfl, hbs, hc⟩ := HO.out.open_ (by omega)
      obtain ⟨d0, d1, d2, d3, d4, d5, d6, d7, d8, d9, d10⟩ := hc.cells (Below.refl _ _) hbs k1
      have q2 : (k : Int) < (n : Int) := by omega
      have Hhit := hid (fun h => getR_hit k1 hz.out h)
      have Hst := hid (fun h : rs[k].x.id ≠ t => fun j (hj : j < rs.length) (hj2 : j < k + 1) => (show rs[j].x.id ≠ t from by
        by_cases e : j = k
        · subst e; exact h
        · exact hz.out j hj (by omega)))
      clear hz hc
      generalize rs[k] = r at *
      by_cases hx : r.x.id = t
      · have hg := hid (Hhit.out hx)
        have hx' : (r.x.id == t) = true := by simp [hx]
        clear hx Hst Hhit
        go_wp2_with fail
        refine bodyPost_ret (v := .tuple #[.agg #[.int .i64 r.x.id, .int .i64 r.x.x, .int .i64 r.x.y, .int .i64 r.x.pic.w, .int .i64 r.x.pic.h, .slice r.A r.n r.c, .int .i64 r.x.clip.x, .int .i64 r.x.clip.y, .int .i64 r.x.clip.w, .int .i64 r.x.clip.h, .bool r.x.shown], .bool true]) (by simp [results, Try.results54, go_sem]) rfl ⟨by rw [hg.out]; rfl, ?_⟩
        (repeat (first | with_reducible exact Below.refl _ _ | with_reducible refine Below.alloc ?_ (by simp; try omega) _ | with_reducible refine Below.setCell ?_ (by simp; try omega) _ | with_reducible refine below_drewN ?_ _ | with_reducible refine Below.drew ?_))
      · have hs := hid (Hst.out hx)
        have hx' : (r.x.id == t) = false := by simp [hx]
        clear hx Hst Hhit
        go_wp2_with fail
        go_round
        case rel => exact ⟨k + 1, by omega, by go_num, hs⟩
        case measure => simp [intOf]; omega
    · have hg := hid (getR_none (rs := rs) (id := t) (fun j hj => hz.out j hj (by rw [Hl.out] at hj; omega)))
      clear hz
      go_wp2_with fail
      refine bodyPost_ret (v := .tuple #[.agg #[.int .i64 0, .int .i64 0, .int .i64 0, .int .i64 0, .int .i64 0, .slice none 0 0, .int .i64 0, .int .i64 0, .int .i64 0, .int .i64 0, .bool false], .bool false]) (by simp [results, Try.results54, go_sem]) rfl ⟨by rw [hg.out]; rfl, ?_⟩
      (repeat (first | with_reducible exact Below.refl _ _ | with_reducible refine Below.alloc ?_ (by simp; try omega) _ | with_reducible refine Below.setCell ?_ (by simp; try omega) _ | with_reducible refine below_drewN ?_ _ | with_reducible refine Below.drew ?_))
/-! ## SetObject -/
/-- what lies in the new list after k objects -/
def LaidInv (o : FObj) (l : List FObj) (k : Nat) (laid : Bool) (d : List FObj) : Prop :=
  (laid = false → d = l.take k ∧ ∀ r ∈ l.take k, r.id < o.id) ∧ (laid = true → d = setP o (l.take k) ∧ ∃ r ∈ l.take k, o.id ≤ r.id)
theorem LaidInv.start (o : FObj) (l : List FObj) : LaidInv o l 0 false [] := ⟨fun _ => ⟨by simp, by simp⟩, (fun h => by cases h)⟩
theorem take_mem {l : List FObj} {k : Nat} (hk : k < l.length) {r : FObj} (h : r ∈ l.take (k + 1)) : r ∈ l.take k ∨ r = l[k] := by
  rw [List.take_succ_eq_append_getElem hk] at h
  rcases List.mem_append.1 h with h | h
  · exact Or.inl h
  · exact Or.inr (by simpa using h)
theorem mem_take_succ {l : List FObj} {k : Nat} (hk : k < l.length) : l[k] ∈ l.take (k + 1) := by
  rw [List.take_succ_eq_append_getElem hk]
  exact List.mem_append.2 (Or.inr (List.mem_singleton.2 rfl))
theorem LaidInv.lay {o : FObj} {l d : List FObj} {k : Nat} (hk : k < l.length) (h : LaidInv o l k false d) (hle : o.id ≤ l[k].id) : LaidInv o l (k + 1) true (d ++ [o] ++ (if l[k].id = o.id then [] else [l[k]])) := by
  obtain ⟨h1, h2⟩ := h.1 rfl
  refine ⟨(fun h => by cases h), fun _ => ⟨?_, l[k], mem_take_succ hk, hle⟩⟩
  rw [List.take_succ_eq_append_getElem hk, set_snoc_low _ h2, h1, if_neg (show ¬ l[k].id < o.id by omega), List.append_assoc]
  split <;> rfl
theorem LaidInv.low {o : FObj} {l d : List FObj} {k : Nat} (hk : k < l.length) (h : LaidInv o l k false d) (hlt : l[k].id < o.id) : LaidInv o l (k + 1) false (d ++ [l[k]]) := by
  obtain ⟨h1, h2⟩ := h.1 rfl
  refine ⟨fun _ => ⟨by rw [List.take_succ_eq_append_getElem hk, h1], fun r hr => ?_⟩, fun h => by cases h⟩
  rcases take_mem hk hr with hr | rfl
  · exact h2 r hr
  · exact hlt
theorem LaidInv.more {o : FObj} {l d : List FObj} {k : Nat} (hk : k < l.length) (h : LaidInv o l k true d) : LaidInv o l (k + 1) true (d ++ [l[k]]) := by
  obtain ⟨h1, r, hr, hle⟩ := h.2 rfl
  refine ⟨(fun h => by cases h), fun _ => ⟨by rw [List.take_succ_eq_append_getElem hk, set_snoc_laid _ ⟨r, hr, hle⟩, h1], r, ?_, hle⟩⟩
  rw [List.take_succ_eq_append_getElem hk]
  exact List.mem_append.2 (Or.inl hr)
theorem LaidInv.above {o : FObj} {l d : List FObj} {k : Nat} (hr : Rise l) (hk : k < l.length) (h : LaidInv o l k true d) : l[k].id ≠ o.id := by
  obtain ⟨-, r, hm, hle⟩ := h.2 rfl
  obtain ⟨j, hj, rfl⟩ := List.getElem_of_mem hm
  rw [List.length_take] at hj
  rw [List.getElem_take] at hle
  have := rise_at hr (i := j) (j := k) (by omega) hk
  omega
theorem LaidInv.end_ {o : FObj} {l d : List FObj} {laid : Bool} (h : LaidInv o l l.length laid d) : setP o l = if laid then d else d ++ [o] := by
  cases laid
  · obtain ⟨h1, h2⟩ := h.1 rfl
    rw [List.take_length] at h1 h2
    rw [set_end h2, h1]; rfl
  · obtain ⟨h1, -⟩ := h.2 rfl
    rw [List.take_length] at h1
    rw [h1]; rfl
theorem dat_snoc (os : List (FAt FObj)) (r : FAt FObj) : dat (os ++ [r]) = dat os ++ [r.x] := by simp [dat]
/-- all of the new list was there -/
def From (os rs : List (FAt FObj)) (r : FAt FObj) : Prop := ∀ q ∈ os, q = r ∨ q ∈ rs
theorem From.self {os rs : List (FAt FObj)} {r : FAt FObj} (h : From os rs r) : From (os ++ [r]) rs r := fun q hq => by
  rcases List.mem_append.1 hq with hq | hq
  · exact h q hq
  · exact Or.inl (by simpa using hq)
theorem From.old {os rs : List (FAt FObj)} {r q : FAt FObj} (h : From os rs r) (hq : q ∈ rs) : From (os ++ [q]) rs r := fun p hp => by
  rcases List.mem_append.1 hp with hp | hp
  · exact h p hp
  · exact Or.inr (by rw [List.mem_singleton.1 hp]; exact hq)
theorem own_snoc {os : List (FAt FObj)} {B : Nat} {w : World} {v : Value} {r : FAt FObj} (h : w.ownsRow B 89 11 v (os.length + 1) (os.flatMap obCells ++ obCells r)) : OwnObjs (os ++ [r]) B w v := by
  unfold OwnObjs
  rw [List.length_append, List.flatMap_append]
  simpa using h
theorem own_snoc2 {os : List (FAt FObj)} {B : Nat} {w : World} {v : Value} {r q : FAt FObj} (h : w.ownsRow B 89 11 v (os.length + 1 + 1) (os.flatMap obCells ++ (obCells r ++ obCells q))) : OwnObjs (os ++ [r] ++ [q]) B w v := by
  unfold OwnObjs
  rw [List.length_append, List.flatMap_append, List.length_append, List.flatMap_append]
  simpa using h
set_option maxRecDepth 100000 in
set_option maxHeartbeats 6400000 in
theorem rset_any (A : Option Addr) (n c : Nat) (rs : List (FAt FObj)) (r : FAt FObj) (w : World) (h : Objs w A n rs) (hp : Pixs w r.A r.n r.x.pic.p) (hr : Rise (dat rs)) (hn : n ≤ 1000) :
    Calls Try.prog 53 #[.slice A n c, objV r] w (RetObjs2 rs r.A (setP r.x (dat rs)) w) := by
  have Hl := hid h.1
  have HO := hid h
  have HR := hid hr
  have Hp := hid hp
  obtain ⟨i0, hi, hz0, hz1, hz2⟩ := info_parts info_ob
  clear h hr hp
  go_enter Try.func53, Try.ntmps53
  go_upto_region 1 with fail
  obtain ⟨W0, hW0⟩ : ∃ W0, W0 = w.alloc (.cells #[.int .i64 r.x.id, .int .i64 r.x.x, .int .i64 r.x.y, .int .i64 r.x.pic.w, .int .i64 r.x.pic.h, .slice r.A r.n r.c, .int .i64 r.x.clip.x, .int .i64 r.x.clip.y, .int .i64 r.x.clip.w, .int .i64 r.x.clip.h, .bool r.x.shown] 89) := ⟨_, rfl⟩
  have hB0 : Below w.heap.size w W0 := by rw [hW0]; exact (Below.refl w.heap.size w).alloc (Nat.le_refl _) _
  have z0 : w.heap.size < W0.heap.size := by rw [hW0]; simp
  have CE0 : Hid (ObBox W0 w.heap.size r) := by show ObBox _ _ _; rw [hW0]; refine ⟨?_, ?_, ?_, ?_, ?_, ?_, ?_, ?_, ?_, ?_, ?_⟩ <;> simp
  rw [← hW0]
  clear hW0
  go_wp2_with fail
  go_loopw [5, 6, 7] (fun v lb i wr => ∃ (k : Nat) (laid : Bool) (os : List (FAt FObj)), k ≤ n ∧ i = .int .i64 k ∧ lb = .bool laid ∧ Hid (OwnObjs os W0.heap.size wr v) ∧ Hid (LaidInv r.x (dat rs) k laid (dat os)) ∧ Hid (From os rs r) ∧ os.length ≤ 2 * k ∧ Below W0.heap.size W0 wr) (fun _ _ i _ => n - (intOf i).toNat)
  case atStart => exact ⟨0, false, [], by omega, rfl, rfl, hid (OwnObjs.nil _ _), hid (LaidInv.start _ _), hid (fun q hq => by simp at hq), by simp, Below.refl _ _⟩
  case round =>
    obtain ⟨k, laid, os, hk, rfl, rfl, HOw, HI, HF, hol, hbel⟩ := hrel
    have CE := hid (CE0.out.below hbel z0)
    have hzr : W0.heap.size ≤ wr.heap.size := hbel.size
    obtain ⟨b0, b1, b2, b3, b4, b5, b6, b7, b8, b9, b10⟩ := CE.out
    by_cases hlt : k < n
    · have k1 : k < rs.length := by rw [Hl.out]; exact hlt
      have k2 : k < (dat rs).length := by rw [dat_len]; exact k1
      have kx : (dat rs)[k] = rs[k].x := dat_at k1
      obtain ⟨b, off, rfl, hbs, hc⟩ := HO.out.open_ (by omega)
      have hbel0 : Below w.heap.size w wr := bnext hB0 hbel
      obtain ⟨d0, d1, d2, d3, d4, d5, d6, d7, d8, d9, d10⟩ := hc.cells hbel0 hbs k1
      have q2 : (k : Int) < (n : Int) := by omega
      have hmem : rs[k] ∈ rs := List.getElem_mem k1
      have Hlay := hid (fun (hl : laid = false) hle => LaidInv.lay k2 (hl ▸ HI.out) hle)
      have Hlow := hid (fun (hl : laid = false) hle => LaidInv.low k2 (hl ▸ HI.out) hle)
      have Hmore := hid (fun (hl : laid = true) => LaidInv.more k2 (hl ▸ HI.out))
      have Habove := hid (fun (hl : laid = true) => LaidInv.above HR.out k2 (hl ▸ HI.out))
      rw [kx] at Hlay Hlow Hmore Habove
      have Hmem := hid hmem
      have Hq := hid (hc.cells (Below.refl _ _) hbs k1)
      clear hmem kx hc HI
      generalize rs[k] = q at *
      cases laid with
      | true =>
        have hne := Habove.out rfl
        have hst := hid (Hmore.out rfl)
        have hx : (q.x.id != r.x.id) = true := by simpa using hne
        clear hne Habove Hmore Hlay Hlow
        go_wp2_with fail
        go_quiet (fail)
        go_wp2_with fail
        go_quiet (fail)
        go_wp2_with (at_builtin; refine wpList_append_own _ rfl _ _ 40 rfl W0.heap.size 89 i0 _ 11 104 Try.underlying40 hi hz0 hz1 hz2 rfl (by decide) _ _ _ rfl (World.ownsRow.alloc HOw.out _) ⟨wr.heap.size, 0, none⟩ 1 1 (obCells q) rfl rfl (fun j u hu => new_cells _ #[.int .i64 q.x.id, .int .i64 q.x.x, .int .i64 q.x.y, .int .i64 q.x.pic.w, .int .i64 q.x.pic.h, .slice q.A q.n q.c, .int .i64 q.x.clip.x, .int .i64 q.x.clip.y, .int .i64 q.x.clip.w, .int .i64 q.x.clip.h, .bool q.x.shown] 89 j u hu) (fun u hu => obCells_one (rs := [q]) (by simpa using hu)) (by unfold maxLen; omega) (by omega) (by simp; omega) ?_)
        intro v1 w1 hown1 hgrow1 _
        have HOw1 : Hid (OwnObjs (os ++ [q]) W0.heap.size w1 v1) := own_snoc hown1
        have hbel1 : Below W0.heap.size W0 w1 := (Below.alloc (below_drewN hbel _) (by first | omega | (simp; omega)) _).grown hgrow1 (by simp; omega) (fun g hg => (World.ownsRow.lt HOw.out g hg).1)
        clear hown1 hgrow1
        go_wp2_with fail
        go_roundw
        case rel => exact ⟨k + 1, true, os ++ [q], by omega, by go_num, rfl, HOw1, hid (by rw [dat_snoc]; exact hst.out), hid (HF.out.old Hmem.out), by simp; omega, hbel1⟩
        case measure => simp [intOf]; omega
      | false =>
        clear Habove Hmore
        by_cases hle : r.x.id ≤ q.x.id
        · have hst := hid (Hlay.out rfl hle)
          clear Hlay Hlow
          go_wp2_with fail
          go_quiet (fail)
          go_wp2_with (at_builtin; refine wpList_append_own _ rfl _ _ 40 rfl W0.heap.size 89 i0 _ 11 104 Try.underlying40 hi hz0 hz1 hz2 rfl (by decide) _ _ _ rfl (World.ownsRow.alloc HOw.out _) ⟨wr.heap.size, 0, none⟩ 1 1 (obCells r) rfl rfl (fun j u hu => new_cells _ #[.int .i64 r.x.id, .int .i64 r.x.x, .int .i64 r.x.y, .int .i64 r.x.pic.w, .int .i64 r.x.pic.h, .slice r.A r.n r.c, .int .i64 r.x.clip.x, .int .i64 r.x.clip.y, .int .i64 r.x.clip.w, .int .i64 r.x.clip.h, .bool r.x.shown] 89 j u hu) (fun u hu => obCells_one (rs := [r]) (by simpa using hu)) (by unfold maxLen; omega) (by omega) (by simp; omega) ?_)
          intro v1 w1 hown1 hgrow1 _
          have HOw1 : Hid (OwnObjs (os ++ [r]) W0.heap.size w1 v1) := own_snoc hown1
          have hbel1 : Below W0.heap.size W0 w1 := (Below.alloc (below_drewN hbel _) (by first | omega | (simp; omega)) _).grown hgrow1 (by simp; omega) (fun g hg => (World.ownsRow.lt HOw.out g hg).1)
          clear hown1 hgrow1
          have CE1 := hid (CE0.out.below hbel1 z0)
          have hol1 : (os ++ [r]).length ≤ 2 * k + 1 := by rw [List.length_append]; simp; omega
          have hz1' : W0.heap.size ≤ w1.heap.size := hbel1.size
          have hbel01 : Below w.heap.size w w1 := bnext hB0 hbel1
          clear b0 b1 b2 b3 b4 b5 b6 b7 b8 b9 b10 d0 d1 d2 d3 d4 d5 d6 d7 d8 d9 d10
          obtain ⟨b0, b1, b2, b3, b4, b5, b6, b7, b8, b9, b10⟩ := CE1.out
          obtain ⟨d0, d1, d2, d3, d4, d5, d6, d7, d8, d9, d10⟩ : ObCells w1 b (off + k * 11) q := Hq.out.below hbel01 hbs
          by_cases he : q.x.id = r.x.id
          · have hx : (q.x.id != r.x.id) = false := by simp [he]
            rw [if_pos he, List.append_nil] at hst
            clear he hle
            go_wp2_with fail
            go_quiet (fail)
            go_wp2_with fail
            go_roundw
            case rel => exact ⟨k + 1, true, os ++ [r], by omega, by go_num, rfl, HOw1, hid (by rw [dat_snoc]; exact hst.out), hid HF.out.self, by simp; omega, below_drewN hbel1 _⟩
            case measure => simp [intOf]; omega
          · have hx : (q.x.id != r.x.id) = true := by simp [he]
            rw [if_neg he] at hst
            clear he hle
            go_wp2_with fail
            go_quiet (fail)
            go_wp2_with (at_builtin; refine wpList_append_own _ rfl _ _ 40 rfl W0.heap.size 89 i0 _ 11 104 Try.underlying40 hi hz0 hz1 hz2 rfl (by decide) _ _ _ rfl (World.ownsRow.alloc HOw1.out _) ⟨w1.heap.size, 0, none⟩ 1 1 (obCells q) rfl rfl (fun j u hu => new_cells _ #[.int .i64 q.x.id, .int .i64 q.x.x, .int .i64 q.x.y, .int .i64 q.x.pic.w, .int .i64 q.x.pic.h, .slice q.A q.n q.c, .int .i64 q.x.clip.x, .int .i64 q.x.clip.y, .int .i64 q.x.clip.w, .int .i64 q.x.clip.h, .bool q.x.shown] 89 j u hu) (fun u hu => obCells_one (rs := [q]) (by simpa using hu)) (by unfold maxLen; omega) (by omega) (by simp; omega) ?_)
            intro v2 w2 hown2 hgrow2 _
            have HOw2 : Hid (OwnObjs (os ++ [r] ++ [q]) W0.heap.size w2 v2) := own_snoc2 hown2
            have hbel2 : Below W0.heap.size W0 w2 := (Below.alloc (below_drewN hbel1 _) (by first | omega | (simp; omega)) _).grown hgrow2 (by simp; omega) (fun g hg => (World.ownsRow.lt HOw1.out g hg).1)
            clear hown2 hgrow2
            go_wp2_with fail
            go_roundw
            case rel => exact ⟨k + 1, true, os ++ [r] ++ [q], by omega, by go_num, rfl, HOw2, hid (by rw [dat_snoc, dat_snoc]; exact hst.out), hid (HF.out.self.old Hmem.out), by simp; omega, hbel2⟩
            case measure => simp [intOf]; omega
        · have hst := hid (Hlow.out rfl (by omega))
          have hx : (q.x.id != r.x.id) = true := by simp; omega
          have hle' : decide (r.x.id ≤ q.x.id) = false := decide_eq_false hle
          clear Hlay Hlow hle
          go_wp2_with fail
          go_quiet (fail)
          go_wp2_with fail
          go_quiet (fail)
          go_wp2_with (at_builtin; refine wpList_append_own _ rfl _ _ 40 rfl W0.heap.size 89 i0 _ 11 104 Try.underlying40 hi hz0 hz1 hz2 rfl (by decide) _ _ _ rfl (World.ownsRow.alloc HOw.out _) ⟨wr.heap.size, 0, none⟩ 1 1 (obCells q) rfl rfl (fun j u hu => new_cells _ #[.int .i64 q.x.id, .int .i64 q.x.x, .int .i64 q.x.y, .int .i64 q.x.pic.w, .int .i64 q.x.pic.h, .slice q.A q.n q.c, .int .i64 q.x.clip.x, .int .i64 q.x.clip.y, .int .i64 q.x.clip.w, .int .i64 q.x.clip.h, .bool q.x.shown] 89 j u hu) (fun u hu => obCells_one (rs := [q]) (by simpa using hu)) (by unfold maxLen; omega) (by omega) (by simp; omega) ?_)
          intro v1 w1 hown1 hgrow1 _
          have HOw1 : Hid (OwnObjs (os ++ [q]) W0.heap.size w1 v1) := own_snoc hown1
          have hbel1 : Below W0.heap.size W0 w1 := (Below.alloc (below_drewN hbel _) (by first | omega | (simp; omega)) _).grown hgrow1 (by simp; omega) (fun g hg => (World.ownsRow.lt HOw.out g hg).1)
          clear hown1 hgrow1
          go_wp2_with fail
          go_roundw
          case rel => exact ⟨k + 1, false, os ++ [q], by omega, by go_num, rfl, HOw1, hid (by rw [dat_snoc]; exact hst.out), hid (HF.out.old Hmem.out), by simp; omega, hbel1⟩
          case measure => simp [intOf]; omega
    · obtain rfl : k = n := by omega
      have hend := hid (LaidInv.end_ (o := r.x) (l := dat rs) (d := dat os) (laid := laid) (by rw [dat_len, Hl.out]; exact HI.out))
      clear HI
      have hpx : ∀ W, Below w.heap.size w W → ∀ os' : List (FAt FObj), From os' rs r → ∀ p ∈ os', Pixs W p.A p.n p.x.pic.p := fun W hb os' hf p hp => by
        rcases hf p hp with rfl | hp
        · exact Hp.out.below hb
        · exact (HO.out.2.2 p hp).below hb
      have Hpx := hid hpx
      clear hpx
      cases laid with
      | true =>
        have hbel0 : Below w.heap.size w wr := bnext hB0 hbel
        obtain ⟨A9, c9, rfl, -, -, ho⟩ := own_objs HOw.out (Hpx.out wr hbel0 os HF.out)
        have hav := hid (fun g0 (hg0 : g0 < w.heap.size) (ha : Avoid g0 rs) (hpa : NotIn g0 r.A) => (show NotIn g0 A9 ∧ Avoid g0 (os) from ⟨fun a e => by
          obtain ⟨A4, c4, e4, hA4, -⟩ := own_slice HOw.out
          injection e4 with e5
          have := (hA4 a (e5 ▸ e)).1
          omega, fun q hq => by
          rcases HF.out q hq with rfl | hq
          · exact hpa
          · exact ha q hq⟩))
        have Ho := hid ho
        clear ho
        generalize os.length = m at *
        go_wp2_with fail
        go_ret
        exact ⟨_, _, _, os, rfl, Ho.out, hend.out.symm, hbel0, hav.out⟩
      | false =>
        go_wp2_with (at_builtin; refine wpList_append_own _ rfl _ _ 40 rfl W0.heap.size 89 i0 _ 11 104 Try.underlying40 hi hz0 hz1 hz2 rfl (by decide) _ _ _ rfl (World.ownsRow.alloc HOw.out _) ⟨wr.heap.size, 0, none⟩ 1 1 (obCells r) rfl rfl (fun j u hu => new_cells _ #[.int .i64 r.x.id, .int .i64 r.x.x, .int .i64 r.x.y, .int .i64 r.x.pic.w, .int .i64 r.x.pic.h, .slice r.A r.n r.c, .int .i64 r.x.clip.x, .int .i64 r.x.clip.y, .int .i64 r.x.clip.w, .int .i64 r.x.clip.h, .bool r.x.shown] 89 j u hu) (fun u hu => obCells_one (rs := [r]) (by simpa using hu)) (by unfold maxLen; omega) (by omega) (by simp; omega) ?_)
        intro v1 w1 hown1 hgrow1 _
        have HOw1 : Hid (OwnObjs (os ++ [r]) W0.heap.size w1 v1) := own_snoc hown1
        have hbel1 : Below W0.heap.size W0 w1 := (Below.alloc hbel (by first | omega | (simp; omega)) _).grown hgrow1 (by simp; omega) (fun g hg => (World.ownsRow.lt HOw.out g hg).1)
        clear hown1 hgrow1
        have hbel0 : Below w.heap.size w w1 := bnext hB0 hbel1
        obtain ⟨A9, c9, rfl, -, -, ho⟩ := own_objs HOw1.out (Hpx.out w1 hbel0 _ HF.out.self)
        have hav := hid (fun g0 (hg0 : g0 < w.heap.size) (ha : Avoid g0 rs) (hpa : NotIn g0 r.A) => (show NotIn g0 A9 ∧ Avoid g0 (os ++ [r]) from ⟨fun a e => by
          obtain ⟨A4, c4, e4, hA4, -⟩ := own_slice HOw1.out
          injection e4 with e5
          have := (hA4 a (e5 ▸ e)).1
          omega, fun q hq => by
          rcases HF.out.self q hq with rfl | hq
          · exact hpa
          · exact ha q hq⟩))
        have Ho := hid ho
        clear ho
        generalize (os ++ [r]).length = m at *
        go_wp2_with fail
        go_ret
        exact ⟨_, _, _, os ++ [r], rfl, Ho.out, by rw [dat_snoc]; exact hend.out.symm, hbel0, hav.out⟩
end Fb
namespace Fb
open Go Go.Proofs Go.RowKit Go.Sort
set_option maxRecDepth 100000 in
set_option maxHeartbeats 1600000 in
theorem rdo_none (ok oi ona onb onc ond ow oh : Int) (ol : List Px) (oA : Option Addr) (on oc : Nat) (A : Option Addr) (n c : Nat) (rs : List (FAt FObj)) (w : World) (h : Objs w A n rs) (hp : Pixs w oA on ol) (hr : Rise (dat rs)) (hn : n ≤ 1000) (hk : ok ≠ 2) (hg : getR oi rs = none) :
    Calls Try.prog 41 #[.slice A n c, .agg #[.int .i64 ok, .int .i64 oi, .int .i64 ona, .int .i64 onb, .int .i64 onc, .int .i64 ond, .int .i64 ow, .int .i64 oh, .slice oA on oc]] w (RetDo2 rs none [] (.int .i64 5) w) := by
  have Hg := hid hg
  clear hg
  have Hget := hid (fun W (hb : Below w.heap.size w W) => rget_any A n c rs oi W (h.below hb) hr hn)
  have Hset := hid (fun (r : FAt FObj) W (hb : Below w.heap.size w W) (hp : Pixs W r.A r.n r.x.pic.p) => rset_any A n c rs r W (h.below hb) hp hr hn)
  have HO := hid h
  have Hp := hid hp
  have HR := hid hr
  clear h hp hr
  have hk' : (ok == 2) = false := beq_eq_false_iff_ne.2 hk
  clear hk
  go_enter Try.func41, Try.ntmps41
  go_upto_region 1 with fail
  obtain ⟨W0, hW0⟩ : ∃ W0, W0 = w.alloc (.cells #[.int .i64 ok, .int .i64 oi, .int .i64 ona, .int .i64 onb, .int .i64 onc, .int .i64 ond, .int .i64 ow, .int .i64 oh, .slice oA on oc] 51) := ⟨_, rfl⟩
  have hB0 : Below w.heap.size w W0 := by rw [hW0]; exact (Below.refl w.heap.size w).alloc (Nat.le_refl _) _
  have z0 : w.heap.size < W0.heap.size := by rw [hW0]; simp
  have CE0 : Hid (OpBox W0 w.heap.size ok oi ona onb onc ond ow oh oA on oc) := by show OpBox _ _ _ _ _ _ _ _ _ _ _ _ _; rw [hW0]; refine ⟨?_, ?_, ?_, ?_, ?_, ?_, ?_, ?_, ?_⟩ <;> simp
  rw [← hW0]
  clear hW0
  obtain ⟨b0, b1, b2, b3, b4, b5, b6, b7, b8⟩ := CE0.out
  go_wp2_with fail
  refine (Hget.out W0 hB0).mono ?_
  rintro e w1 ⟨rfl, hb1⟩
  rw [Hg.out]
  unfold getV
  clear b0 b1 b2 b3 b4 b5 b6 b7 b8
  have CE1 := hid (CE0.out.below hb1 z0)
  have hB : Below w.heap.size w w1 := bnext hB0 hb1
  have z1 : w.heap.size < w1.heap.size := Nat.lt_of_lt_of_le z0 hb1.size
  have zne : w.heap.size ≠ w1.heap.size := by omega
  clear CE0 hB0 hb1 z0
  obtain ⟨b0, b1, b2, b3, b4, b5, b6, b7, b8⟩ := CE1.out
  go_wp2_with fail
  go_ret2
  refine ⟨none, 0, 0, [], rfl, ⟨rfl, Row.none_ _ _ _, by simp⟩, rfl, ?_, fun g _ _ _ => ⟨fun a e => (by cases e), fun q hq => absurd hq (by simp)⟩⟩
  (repeat (first | with_reducible exact hB | with_reducible refine Below.alloc ?_ (by have := hB.size; simp; try omega) _ | with_reducible refine Below.setCell ?_ (by have := hB.size; simp; try omega) _ | with_reducible refine below_drewN ?_ _ | with_reducible refine Below.drew ?_))
set_option maxRecDepth 100000 in
set_option maxHeartbeats 1600000 in
theorem rdo_k2 (oi ona onb onc ond ow oh : Int) (ol : List Px) (oA : Option Addr) (on oc : Nat) (A : Option Addr) (n c : Nat) (rs : List (FAt FObj)) (w : World) (h : Objs w A n rs) (hp : Pixs w oA on ol) (hr : Rise (dat rs)) (hn : n ≤ 1000) :
    Calls Try.prog 41 #[.slice A n c, .agg #[.int .i64 2, .int .i64 oi, .int .i64 ona, .int .i64 onb, .int .i64 onc, .int .i64 ond, .int .i64 ow, .int .i64 oh, .slice oA on oc]] w (RetDo2 rs oA (setP (freshP oi ⟨ow, oh, ol⟩) (dat rs)) (.int .i64 0) w) := by
  have Hset := hid (fun (r : FAt FObj) W (hb : Below w.heap.size w W) (hp : Pixs W r.A r.n r.x.pic.p) => rset_any A n c rs r W (h.below hb) hp hr hn)
  have HO := hid h
  have Hp := hid hp
  have HR := hid hr
  clear h hp hr
  go_enter Try.func41, Try.ntmps41
  go_upto_region 1 with fail
  obtain ⟨W0, hW0⟩ : ∃ W0, W0 = w.alloc (.cells #[.int .i64 2, .int .i64 oi, .int .i64 ona, .int .i64 onb, .int .i64 onc, .int .i64 ond, .int .i64 ow, .int .i64 oh, .slice oA on oc] 51) := ⟨_, rfl⟩
  have hB0 : Below w.heap.size w W0 := by rw [hW0]; exact (Below.refl w.heap.size w).alloc (Nat.le_refl _) _
  have z0 : w.heap.size < W0.heap.size := by rw [hW0]; simp
  have CE0 : Hid (OpBox W0 w.heap.size 2 oi ona onb onc ond ow oh oA on oc) := by show OpBox _ _ _ _ _ _ _ _ _ _ _ _ _; rw [hW0]; refine ⟨?_, ?_, ?_, ?_, ?_, ?_, ?_, ?_, ?_⟩ <;> simp
  rw [← hW0]
  clear hW0
  obtain ⟨b0, b1, b2, b3, b4, b5, b6, b7, b8⟩ := CE0.out
  go_wp2_with fail
  have hB := hB0
  refine (Hset.out ⟨freshP oi ⟨ow, oh, ol⟩, oA, on, oc⟩ _ (by (repeat (first | with_reducible exact hB | with_reducible refine Below.alloc ?_ (by have := hB.size; simp; try omega) _ | with_reducible refine Below.setCell ?_ (by have := hB.size; simp; try omega) _ | with_reducible refine below_drewN ?_ _ | with_reducible refine Below.drew ?_))) (Hp.out.below (by (repeat (first | with_reducible exact hB | with_reducible refine Below.alloc ?_ (by have := hB.size; simp; try omega) _ | with_reducible refine Below.setCell ?_ (by have := hB.size; simp; try omega) _ | with_reducible refine below_drewN ?_ _ | with_reducible refine Below.drew ?_))))).mono ?_
  rintro e w9 ⟨A9, n9, c9, rs9, rfl, ho, hd, hb9, hav⟩
  have Hav := hid (fun g (hg : g < w.heap.size) => hav g (Nat.lt_of_lt_of_le hg (Below.size (by (repeat (first | with_reducible exact hB | with_reducible refine Below.alloc ?_ (by have := hB.size; simp; try omega) _ | with_reducible refine Below.setCell ?_ (by have := hB.size; simp; try omega) _ | with_reducible refine below_drewN ?_ _ | with_reducible refine Below.drew ?_))))))
  clear hav
  have Ho := hid ho
  have Hd := hid hd
  have HB9 : Below w.heap.size w w9 := bnext (by (repeat (first | with_reducible exact hB | with_reducible refine Below.alloc ?_ (by have := hB.size; simp; try omega) _ | with_reducible refine Below.setCell ?_ (by have := hB.size; simp; try omega) _ | with_reducible refine below_drewN ?_ _ | with_reducible refine Below.drew ?_))) hb9
  clear ho hd hb9
  clear b0 b1 b2 b3 b4 b5 b6 b7 b8
  go_wp2_with fail
  go_ret2
  exact RetDo2.of_set _ Ho.out Hd.out HB9 (fun g hg ha hp => Hav.out g hg ha (hp))
set_option maxRecDepth 100000 in
set_option maxHeartbeats 1600000 in
theorem rdo_k3 (oi ona onb onc ond ow oh : Int) (ol : List Px) (oA : Option Addr) (on oc : Nat) (A : Option Addr) (n c : Nat) (rs : List (FAt FObj)) (r0 : FAt FObj) (w : World) (h : Objs w A n rs) (hp : Pixs w oA on ol) (hr : Rise (dat rs)) (hn : n ≤ 1000) (hg : getR oi rs = some r0) :
    Calls Try.prog 41 #[.slice A n c, .agg #[.int .i64 3, .int .i64 oi, .int .i64 ona, .int .i64 onb, .int .i64 onc, .int .i64 ond, .int .i64 ow, .int .i64 oh, .slice oA on oc]] w (RetDo2 rs none (setP (turnP r0.x ⟨3, oi, ona, onb, onc, ond, ⟨ow, oh, ol⟩⟩) (dat rs)) (.int .i64 0) w) := by
  obtain ⟨⟨ri, rx, ry, ⟨rw, rh, rl⟩, ⟨cx, cy, cw, ch⟩, sh⟩, rA, rn, rc⟩ := r0
  have hpx : Pixs w rA rn rl := h.2.2 _ (getR_mem hg).1
  have Hpx := hid hpx
  clear hpx
  have Hg := hid hg
  clear hg
  have Hget := hid (fun W (hb : Below w.heap.size w W) => rget_any A n c rs oi W (h.below hb) hr hn)
  have Hset := hid (fun (r : FAt FObj) W (hb : Below w.heap.size w W) (hp : Pixs W r.A r.n r.x.pic.p) => rset_any A n c rs r W (h.below hb) hp hr hn)
  have HO := hid h
  have Hp := hid hp
  have HR := hid hr
  clear h hp hr
  go_enter Try.func41, Try.ntmps41
  go_upto_region 1 with fail
  obtain ⟨W0, hW0⟩ : ∃ W0, W0 = w.alloc (.cells #[.int .i64 3, .int .i64 oi, .int .i64 ona, .int .i64 onb, .int .i64 onc, .int .i64 ond, .int .i64 ow, .int .i64 oh, .slice oA on oc] 51) := ⟨_, rfl⟩
  have hB0 : Below w.heap.size w W0 := by rw [hW0]; exact (Below.refl w.heap.size w).alloc (Nat.le_refl _) _
  have z0 : w.heap.size < W0.heap.size := by rw [hW0]; simp
  have CE0 : Hid (OpBox W0 w.heap.size 3 oi ona onb onc ond ow oh oA on oc) := by show OpBox _ _ _ _ _ _ _ _ _ _ _ _ _; rw [hW0]; refine ⟨?_, ?_, ?_, ?_, ?_, ?_, ?_, ?_, ?_⟩ <;> simp
  rw [← hW0]
  clear hW0
  obtain ⟨b0, b1, b2, b3, b4, b5, b6, b7, b8⟩ := CE0.out
  go_wp2_with fail
  refine (Hget.out W0 hB0).mono ?_
  rintro e w1 ⟨rfl, hb1⟩
  rw [Hg.out]
  unfold getV
  clear b0 b1 b2 b3 b4 b5 b6 b7 b8
  have CE1 := hid (CE0.out.below hb1 z0)
  have hB : Below w.heap.size w w1 := bnext hB0 hb1
  have z1 : w.heap.size < w1.heap.size := Nat.lt_of_lt_of_le z0 hb1.size
  have zne : w.heap.size ≠ w1.heap.size := by omega
  clear CE0 hB0 hb1 z0
  obtain ⟨b0, b1, b2, b3, b4, b5, b6, b7, b8⟩ := CE1.out
  go_wp2_with fail
  refine (Hset.out ⟨⟨ri, ona, onb, ⟨rw, rh, rl⟩, ⟨cx, cy, cw, ch⟩, sh⟩, rA, rn, rc⟩ _ (by (repeat (first | with_reducible exact hB | with_reducible refine Below.alloc ?_ (by have := hB.size; simp; try omega) _ | with_reducible refine Below.setCell ?_ (by have := hB.size; simp; try omega) _ | with_reducible refine below_drewN ?_ _ | with_reducible refine Below.drew ?_))) (Hpx.out.below (by (repeat (first | with_reducible exact hB | with_reducible refine Below.alloc ?_ (by have := hB.size; simp; try omega) _ | with_reducible refine Below.setCell ?_ (by have := hB.size; simp; try omega) _ | with_reducible refine below_drewN ?_ _ | with_reducible refine Below.drew ?_))))).mono ?_
  rintro e w9 ⟨A9, n9, c9, rs9, rfl, ho, hd, hb9, hav⟩
  have Hav := hid (fun g (hg : g < w.heap.size) => hav g (Nat.lt_of_lt_of_le hg (Below.size (by (repeat (first | with_reducible exact hB | with_reducible refine Below.alloc ?_ (by have := hB.size; simp; try omega) _ | with_reducible refine Below.setCell ?_ (by have := hB.size; simp; try omega) _ | with_reducible refine below_drewN ?_ _ | with_reducible refine Below.drew ?_))))))
  clear hav
  have Ho := hid ho
  have Hd := hid hd
  have HB9 : Below w.heap.size w w9 := bnext (by (repeat (first | with_reducible exact hB | with_reducible refine Below.alloc ?_ (by have := hB.size; simp; try omega) _ | with_reducible refine Below.setCell ?_ (by have := hB.size; simp; try omega) _ | with_reducible refine below_drewN ?_ _ | with_reducible refine Below.drew ?_))) hb9
  clear ho hd hb9
  clear b0 b1 b2 b3 b4 b5 b6 b7 b8
  go_wp2_with fail
  go_ret2
  exact RetDo2.of_set _ Ho.out Hd.out HB9 (fun g hg ha hp => Hav.out g hg ha (ha _ (getR_mem Hg.out).1))
set_option maxRecDepth 100000 in
set_option maxHeartbeats 1600000 in
theorem rdo_k4 (oi ona onb onc ond ow oh : Int) (ol : List Px) (oA : Option Addr) (on oc : Nat) (A : Option Addr) (n c : Nat) (rs : List (FAt FObj)) (r0 : FAt FObj) (w : World) (h : Objs w A n rs) (hp : Pixs w oA on ol) (hr : Rise (dat rs)) (hn : n ≤ 1000) (hg : getR oi rs = some r0) :
    Calls Try.prog 41 #[.slice A n c, .agg #[.int .i64 4, .int .i64 oi, .int .i64 ona, .int .i64 onb, .int .i64 onc, .int .i64 ond, .int .i64 ow, .int .i64 oh, .slice oA on oc]] w (RetDo2 rs none (setP (turnP r0.x ⟨4, oi, ona, onb, onc, ond, ⟨ow, oh, ol⟩⟩) (dat rs)) (.int .i64 0) w) := by
  obtain ⟨⟨ri, rx, ry, ⟨rw, rh, rl⟩, ⟨cx, cy, cw, ch⟩, sh⟩, rA, rn, rc⟩ := r0
  have hpx : Pixs w rA rn rl := h.2.2 _ (getR_mem hg).1
  have Hpx := hid hpx
  clear hpx
  have Hg := hid hg
  clear hg
  have Hget := hid (fun W (hb : Below w.heap.size w W) => rget_any A n c rs oi W (h.below hb) hr hn)
  have Hset := hid (fun (r : FAt FObj) W (hb : Below w.heap.size w W) (hp : Pixs W r.A r.n r.x.pic.p) => rset_any A n c rs r W (h.below hb) hp hr hn)
  have HO := hid h
  have Hp := hid hp
  have HR := hid hr
  clear h hp hr
  go_enter Try.func41, Try.ntmps41
  go_upto_region 1 with fail
  obtain ⟨W0, hW0⟩ : ∃ W0, W0 = w.alloc (.cells #[.int .i64 4, .int .i64 oi, .int .i64 ona, .int .i64 onb, .int .i64 onc, .int .i64 ond, .int .i64 ow, .int .i64 oh, .slice oA on oc] 51) := ⟨_, rfl⟩
  have hB0 : Below w.heap.size w W0 := by rw [hW0]; exact (Below.refl w.heap.size w).alloc (Nat.le_refl _) _
  have z0 : w.heap.size < W0.heap.size := by rw [hW0]; simp
  have CE0 : Hid (OpBox W0 w.heap.size 4 oi ona onb onc ond ow oh oA on oc) := by show OpBox _ _ _ _ _ _ _ _ _ _ _ _ _; rw [hW0]; refine ⟨?_, ?_, ?_, ?_, ?_, ?_, ?_, ?_, ?_⟩ <;> simp
  rw [← hW0]
  clear hW0
  obtain ⟨b0, b1, b2, b3, b4, b5, b6, b7, b8⟩ := CE0.out
  go_wp2_with fail
  refine (Hget.out W0 hB0).mono ?_
  rintro e w1 ⟨rfl, hb1⟩
  rw [Hg.out]
  unfold getV
  clear b0 b1 b2 b3 b4 b5 b6 b7 b8
  have CE1 := hid (CE0.out.below hb1 z0)
  have hB : Below w.heap.size w w1 := bnext hB0 hb1
  have z1 : w.heap.size < w1.heap.size := Nat.lt_of_lt_of_le z0 hb1.size
  have zne : w.heap.size ≠ w1.heap.size := by omega
  clear CE0 hB0 hb1 z0
  obtain ⟨b0, b1, b2, b3, b4, b5, b6, b7, b8⟩ := CE1.out
  go_wp2_with fail
  refine (Hset.out ⟨⟨ri, rx, ry, ⟨rw, rh, rl⟩, ⟨ona, onb, onc, ond⟩, sh⟩, rA, rn, rc⟩ _ (by (repeat (first | with_reducible exact hB | with_reducible refine Below.alloc ?_ (by have := hB.size; simp; try omega) _ | with_reducible refine Below.setCell ?_ (by have := hB.size; simp; try omega) _ | with_reducible refine below_drewN ?_ _ | with_reducible refine Below.drew ?_))) (Hpx.out.below (by (repeat (first | with_reducible exact hB | with_reducible refine Below.alloc ?_ (by have := hB.size; simp; try omega) _ | with_reducible refine Below.setCell ?_ (by have := hB.size; simp; try omega) _ | with_reducible refine below_drewN ?_ _ | with_reducible refine Below.drew ?_))))).mono ?_
  rintro e w9 ⟨A9, n9, c9, rs9, rfl, ho, hd, hb9, hav⟩
  have Hav := hid (fun g (hg : g < w.heap.size) => hav g (Nat.lt_of_lt_of_le hg (Below.size (by (repeat (first | with_reducible exact hB | with_reducible refine Below.alloc ?_ (by have := hB.size; simp; try omega) _ | with_reducible refine Below.setCell ?_ (by have := hB.size; simp; try omega) _ | with_reducible refine below_drewN ?_ _ | with_reducible refine Below.drew ?_))))))
  clear hav
  have Ho := hid ho
  have Hd := hid hd
  have HB9 : Below w.heap.size w w9 := bnext (by (repeat (first | with_reducible exact hB | with_reducible refine Below.alloc ?_ (by have := hB.size; simp; try omega) _ | with_reducible refine Below.setCell ?_ (by have := hB.size; simp; try omega) _ | with_reducible refine below_drewN ?_ _ | with_reducible refine Below.drew ?_))) hb9
  clear ho hd hb9
  clear b0 b1 b2 b3 b4 b5 b6 b7 b8
  go_wp2_with fail
  go_ret2
  exact RetDo2.of_set _ Ho.out Hd.out HB9 (fun g hg ha hp => Hav.out g hg ha (ha _ (getR_mem Hg.out).1))
set_option maxRecDepth 100000 in
set_option maxHeartbeats 1600000 in
theorem rdo_k6 (oi ona onb onc ond ow oh : Int) (ol : List Px) (oA : Option Addr) (on oc : Nat) (A : Option Addr) (n c : Nat) (rs : List (FAt FObj)) (r0 : FAt FObj) (w : World) (h : Objs w A n rs) (hp : Pixs w oA on ol) (hr : Rise (dat rs)) (hn : n ≤ 1000) (hg : getR oi rs = some r0) :
    Calls Try.prog 41 #[.slice A n c, .agg #[.int .i64 6, .int .i64 oi, .int .i64 ona, .int .i64 onb, .int .i64 onc, .int .i64 ond, .int .i64 ow, .int .i64 oh, .slice oA on oc]] w (RetDo2 rs none (setP (turnP r0.x ⟨6, oi, ona, onb, onc, ond, ⟨ow, oh, ol⟩⟩) (dat rs)) (.int .i64 0) w) := by
  obtain ⟨⟨ri, rx, ry, ⟨rw, rh, rl⟩, ⟨cx, cy, cw, ch⟩, sh⟩, rA, rn, rc⟩ := r0
  have hpx : Pixs w rA rn rl := h.2.2 _ (getR_mem hg).1
  have Hpx := hid hpx
  clear hpx
  have Hg := hid hg
  clear hg
  have Hget := hid (fun W (hb : Below w.heap.size w W) => rget_any A n c rs oi W (h.below hb) hr hn)
  have Hset := hid (fun (r : FAt FObj) W (hb : Below w.heap.size w W) (hp : Pixs W r.A r.n r.x.pic.p) => rset_any A n c rs r W (h.below hb) hp hr hn)
  have HO := hid h
  have Hp := hid hp
  have HR := hid hr
  clear h hp hr
  go_enter Try.func41, Try.ntmps41
  go_upto_region 1 with fail
  obtain ⟨W0, hW0⟩ : ∃ W0, W0 = w.alloc (.cells #[.int .i64 6, .int .i64 oi, .int .i64 ona, .int .i64 onb, .int .i64 onc, .int .i64 ond, .int .i64 ow, .int .i64 oh, .slice oA on oc] 51) := ⟨_, rfl⟩
  have hB0 : Below w.heap.size w W0 := by rw [hW0]; exact (Below.refl w.heap.size w).alloc (Nat.le_refl _) _
  have z0 : w.heap.size < W0.heap.size := by rw [hW0]; simp
  have CE0 : Hid (OpBox W0 w.heap.size 6 oi ona onb onc ond ow oh oA on oc) := by show OpBox _ _ _ _ _ _ _ _ _ _ _ _ _; rw [hW0]; refine ⟨?_, ?_, ?_, ?_, ?_, ?_, ?_, ?_, ?_⟩ <;> simp
  rw [← hW0]
  clear hW0
  obtain ⟨b0, b1, b2, b3, b4, b5, b6, b7, b8⟩ := CE0.out
  go_wp2_with fail
  refine (Hget.out W0 hB0).mono ?_
  rintro e w1 ⟨rfl, hb1⟩
  rw [Hg.out]
  unfold getV
  clear b0 b1 b2 b3 b4 b5 b6 b7 b8
  have CE1 := hid (CE0.out.below hb1 z0)
  have hB : Below w.heap.size w w1 := bnext hB0 hb1
  have z1 : w.heap.size < w1.heap.size := Nat.lt_of_lt_of_le z0 hb1.size
  have zne : w.heap.size ≠ w1.heap.size := by omega
  clear CE0 hB0 hb1 z0
  obtain ⟨b0, b1, b2, b3, b4, b5, b6, b7, b8⟩ := CE1.out
  go_wp2_with fail
  refine (Hset.out ⟨⟨ona, rx, ry, ⟨rw, rh, rl⟩, ⟨cx, cy, cw, ch⟩, sh⟩, rA, rn, rc⟩ _ (by (repeat (first | with_reducible exact hB | with_reducible refine Below.alloc ?_ (by have := hB.size; simp; try omega) _ | with_reducible refine Below.setCell ?_ (by have := hB.size; simp; try omega) _ | with_reducible refine below_drewN ?_ _ | with_reducible refine Below.drew ?_))) (Hpx.out.below (by (repeat (first | with_reducible exact hB | with_reducible refine Below.alloc ?_ (by have := hB.size; simp; try omega) _ | with_reducible refine Below.setCell ?_ (by have := hB.size; simp; try omega) _ | with_reducible refine below_drewN ?_ _ | with_reducible refine Below.drew ?_))))).mono ?_
  rintro e w9 ⟨A9, n9, c9, rs9, rfl, ho, hd, hb9, hav⟩
  have Hav := hid (fun g (hg : g < w.heap.size) => hav g (Nat.lt_of_lt_of_le hg (Below.size (by (repeat (first | with_reducible exact hB | with_reducible refine Below.alloc ?_ (by have := hB.size; simp; try omega) _ | with_reducible refine Below.setCell ?_ (by have := hB.size; simp; try omega) _ | with_reducible refine below_drewN ?_ _ | with_reducible refine Below.drew ?_))))))
  clear hav
  have Ho := hid ho
  have Hd := hid hd
  have HB9 : Below w.heap.size w w9 := bnext (by (repeat (first | with_reducible exact hB | with_reducible refine Below.alloc ?_ (by have := hB.size; simp; try omega) _ | with_reducible refine Below.setCell ?_ (by have := hB.size; simp; try omega) _ | with_reducible refine below_drewN ?_ _ | with_reducible refine Below.drew ?_))) hb9
  clear ho hd hb9
  clear b0 b1 b2 b3 b4 b5 b6 b7 b8
  go_wp2_with fail
  go_ret2
  exact RetDo2.of_set _ Ho.out Hd.out HB9 (fun g hg ha hp => Hav.out g hg ha (ha _ (getR_mem Hg.out).1))
set_option maxRecDepth 100000 in
set_option maxHeartbeats 1600000 in
theorem rdo_k5t (oi ona onb onc ond ow oh : Int) (ol : List Px) (oA : Option Addr) (on oc : Nat) (A : Option Addr) (n c : Nat) (rs : List (FAt FObj)) (r0 : FAt FObj) (w : World) (h : Objs w A n rs) (hp : Pixs w oA on ol) (hr : Rise (dat rs)) (hn : n ≤ 1000) (hg : getR oi rs = some r0) (h5 : decide (ona = 1) = true) :
    Calls Try.prog 41 #[.slice A n c, .agg #[.int .i64 5, .int .i64 oi, .int .i64 ona, .int .i64 onb, .int .i64 onc, .int .i64 ond, .int .i64 ow, .int .i64 oh, .slice oA on oc]] w (RetDo2 rs none (setP (turnP r0.x ⟨5, oi, ona, onb, onc, ond, ⟨ow, oh, ol⟩⟩) (dat rs)) (.int .i64 0) w) := by
  obtain ⟨⟨ri, rx, ry, ⟨rw, rh, rl⟩, ⟨cx, cy, cw, ch⟩, sh⟩, rA, rn, rc⟩ := r0
  have hpx : Pixs w rA rn rl := h.2.2 _ (getR_mem hg).1
  have Hpx := hid hpx
  clear hpx
  have Hg := hid hg
  clear hg
  have Hget := hid (fun W (hb : Below w.heap.size w W) => rget_any A n c rs oi W (h.below hb) hr hn)
  have Hset := hid (fun (r : FAt FObj) W (hb : Below w.heap.size w W) (hp : Pixs W r.A r.n r.x.pic.p) => rset_any A n c rs r W (h.below hb) hp hr hn)
  have HO := hid h
  have Hp := hid hp
  have HR := hid hr
  clear h hp hr
  have e5 : turnP ⟨ri, rx, ry, ⟨rw, rh, rl⟩, ⟨cx, cy, cw, ch⟩, sh⟩ ⟨5, oi, ona, onb, onc, ond, ⟨ow, oh, ol⟩⟩ = ⟨ri, rx, ry, ⟨rw, rh, rl⟩, ⟨cx, cy, cw, ch⟩, true⟩ := by rw [← h5]; rfl
  have h5' : (ona == 1) = true := h5
  rw [e5]
  clear e5 h5
  go_enter Try.func41, Try.ntmps41
  go_upto_region 1 with fail
  obtain ⟨W0, hW0⟩ : ∃ W0, W0 = w.alloc (.cells #[.int .i64 5, .int .i64 oi, .int .i64 ona, .int .i64 onb, .int .i64 onc, .int .i64 ond, .int .i64 ow, .int .i64 oh, .slice oA on oc] 51) := ⟨_, rfl⟩
  have hB0 : Below w.heap.size w W0 := by rw [hW0]; exact (Below.refl w.heap.size w).alloc (Nat.le_refl _) _
  have z0 : w.heap.size < W0.heap.size := by rw [hW0]; simp
  have CE0 : Hid (OpBox W0 w.heap.size 5 oi ona onb onc ond ow oh oA on oc) := by show OpBox _ _ _ _ _ _ _ _ _ _ _ _ _; rw [hW0]; refine ⟨?_, ?_, ?_, ?_, ?_, ?_, ?_, ?_, ?_⟩ <;> simp
  rw [← hW0]
  clear hW0
  obtain ⟨b0, b1, b2, b3, b4, b5, b6, b7, b8⟩ := CE0.out
  go_wp2_with fail
  refine (Hget.out W0 hB0).mono ?_
  rintro e w1 ⟨rfl, hb1⟩
  rw [Hg.out]
  unfold getV
  clear b0 b1 b2 b3 b4 b5 b6 b7 b8
  have CE1 := hid (CE0.out.below hb1 z0)
  have hB : Below w.heap.size w w1 := bnext hB0 hb1
  have z1 : w.heap.size < w1.heap.size := Nat.lt_of_lt_of_le z0 hb1.size
  have zne : w.heap.size ≠ w1.heap.size := by omega
  clear CE0 hB0 hb1 z0
  obtain ⟨b0, b1, b2, b3, b4, b5, b6, b7, b8⟩ := CE1.out
  go_wp2_with fail
  refine (Hset.out ⟨⟨ri, rx, ry, ⟨rw, rh, rl⟩, ⟨cx, cy, cw, ch⟩, true⟩, rA, rn, rc⟩ _ (by (repeat (first | with_reducible exact hB | with_reducible refine Below.alloc ?_ (by have := hB.size; simp; try omega) _ | with_reducible refine Below.setCell ?_ (by have := hB.size; simp; try omega) _ | with_reducible refine below_drewN ?_ _ | with_reducible refine Below.drew ?_))) (Hpx.out.below (by (repeat (first | with_reducible exact hB | with_reducible refine Below.alloc ?_ (by have := hB.size; simp; try omega) _ | with_reducible refine Below.setCell ?_ (by have := hB.size; simp; try omega) _ | with_reducible refine below_drewN ?_ _ | with_reducible refine Below.drew ?_))))).mono ?_
  rintro e w9 ⟨A9, n9, c9, rs9, rfl, ho, hd, hb9, hav⟩
  have Hav := hid (fun g (hg : g < w.heap.size) => hav g (Nat.lt_of_lt_of_le hg (Below.size (by (repeat (first | with_reducible exact hB | with_reducible refine Below.alloc ?_ (by have := hB.size; simp; try omega) _ | with_reducible refine Below.setCell ?_ (by have := hB.size; simp; try omega) _ | with_reducible refine below_drewN ?_ _ | with_reducible refine Below.drew ?_))))))
  clear hav
  have Ho := hid ho
  have Hd := hid hd
  have HB9 : Below w.heap.size w w9 := bnext (by (repeat (first | with_reducible exact hB | with_reducible refine Below.alloc ?_ (by have := hB.size; simp; try omega) _ | with_reducible refine Below.setCell ?_ (by have := hB.size; simp; try omega) _ | with_reducible refine below_drewN ?_ _ | with_reducible refine Below.drew ?_))) hb9
  clear ho hd hb9
  clear b0 b1 b2 b3 b4 b5 b6 b7 b8
  go_wp2_with fail
  go_ret2
  exact RetDo2.of_set _ Ho.out Hd.out HB9 (fun g hg ha hp => Hav.out g hg ha (ha _ (getR_mem Hg.out).1))
set_option maxRecDepth 100000 in
set_option maxHeartbeats 1600000 in
theorem rdo_k5f (oi ona onb onc ond ow oh : Int) (ol : List Px) (oA : Option Addr) (on oc : Nat) (A : Option Addr) (n c : Nat) (rs : List (FAt FObj)) (r0 : FAt FObj) (w : World) (h : Objs w A n rs) (hp : Pixs w oA on ol) (hr : Rise (dat rs)) (hn : n ≤ 1000) (hg : getR oi rs = some r0) (h5 : decide (ona = 1) = false) :
    Calls Try.prog 41 #[.slice A n c, .agg #[.int .i64 5, .int .i64 oi, .int .i64 ona, .int .i64 onb, .int .i64 onc, .int .i64 ond, .int .i64 ow, .int .i64 oh, .slice oA on oc]] w (RetDo2 rs none (setP (turnP r0.x ⟨5, oi, ona, onb, onc, ond, ⟨ow, oh, ol⟩⟩) (dat rs)) (.int .i64 0) w) := by
  obtain ⟨⟨ri, rx, ry, ⟨rw, rh, rl⟩, ⟨cx, cy, cw, ch⟩, sh⟩, rA, rn, rc⟩ := r0
  have hpx : Pixs w rA rn rl := h.2.2 _ (getR_mem hg).1
  have Hpx := hid hpx
  clear hpx
  have Hg := hid hg
  clear hg
  have Hget := hid (fun W (hb : Below w.heap.size w W) => rget_any A n c rs oi W (h.below hb) hr hn)
  have Hset := hid (fun (r : FAt FObj) W (hb : Below w.heap.size w W) (hp : Pixs W r.A r.n r.x.pic.p) => rset_any A n c rs r W (h.below hb) hp hr hn)
  have HO := hid h
  have Hp := hid hp
  have HR := hid hr
  clear h hp hr
  have e5 : turnP ⟨ri, rx, ry, ⟨rw, rh, rl⟩, ⟨cx, cy, cw, ch⟩, sh⟩ ⟨5, oi, ona, onb, onc, ond, ⟨ow, oh, ol⟩⟩ = ⟨ri, rx, ry, ⟨rw, rh, rl⟩, ⟨cx, cy, cw, ch⟩, false⟩ := by rw [← h5]; rfl
  have h5' : (ona == 1) = false := h5
  rw [e5]
  clear e5 h5
  go_enter Try.func41, Try.ntmps41
  go_upto_region 1 with fail
  obtain ⟨W0, hW0⟩ : ∃ W0, W0 = w.alloc (.cells #[.int .i64 5, .int .i64 oi, .int .i64 ona, .int .i64 onb, .int .i64 onc, .int .i64 ond, .int .i64 ow, .int .i64 oh, .slice oA on oc] 51) := ⟨_, rfl⟩
  have hB0 : Below w.heap.size w W0 := by rw [hW0]; exact (Below.refl w.heap.size w).alloc (Nat.le_refl _) _
  have z0 : w.heap.size < W0.heap.size := by rw [hW0]; simp
  have CE0 : Hid (OpBox W0 w.heap.size 5 oi ona onb onc ond ow oh oA on oc) := by show OpBox _ _ _ _ _ _ _ _ _ _ _ _ _; rw [hW0]; refine ⟨?_, ?_, ?_, ?_, ?_, ?_, ?_, ?_, ?_⟩ <;> simp
  rw [← hW0]
  clear hW0
  obtain ⟨b0, b1, b2, b3, b4, b5, b6, b7, b8⟩ := CE0.out
  go_wp2_with fail
  refine (Hget.out W0 hB0).mono ?_
  rintro e w1 ⟨rfl, hb1⟩
  rw [Hg.out]
  unfold getV
  clear b0 b1 b2 b3 b4 b5 b6 b7 b8
  have CE1 := hid (CE0.out.below hb1 z0)
  have hB : Below w.heap.size w w1 := bnext hB0 hb1
  have z1 : w.heap.size < w1.heap.size := Nat.lt_of_lt_of_le z0 hb1.size
  have zne : w.heap.size ≠ w1.heap.size := by omega
  clear CE0 hB0 hb1 z0
  obtain ⟨b0, b1, b2, b3, b4, b5, b6, b7, b8⟩ := CE1.out
  go_wp2_with fail
  refine (Hset.out ⟨⟨ri, rx, ry, ⟨rw, rh, rl⟩, ⟨cx, cy, cw, ch⟩, false⟩, rA, rn, rc⟩ _ (by (repeat (first | with_reducible exact hB | with_reducible refine Below.alloc ?_ (by have := hB.size; simp; try omega) _ | with_reducible refine Below.setCell ?_ (by have := hB.size; simp; try omega) _ | with_reducible refine below_drewN ?_ _ | with_reducible refine Below.drew ?_))) (Hpx.out.below (by (repeat (first | with_reducible exact hB | with_reducible refine Below.alloc ?_ (by have := hB.size; simp; try omega) _ | with_reducible refine Below.setCell ?_ (by have := hB.size; simp; try omega) _ | with_reducible refine below_drewN ?_ _ | with_reducible refine Below.drew ?_))))).mono ?_
  rintro e w9 ⟨A9, n9, c9, rs9, rfl, ho, hd, hb9, hav⟩
  have Hav := hid (fun g (hg : g < w.heap.size) => hav g (Nat.lt_of_lt_of_le hg (Below.size (by (repeat (first | with_reducible exact hB | with_reducible refine Below.alloc ?_ (by have := hB.size; simp; try omega) _ | with_reducible refine Below.setCell ?_ (by have := hB.size; simp; try omega) _ | with_reducible refine below_drewN ?_ _ | with_reducible refine Below.drew ?_))))))
  clear hav
  have Ho := hid ho
  have Hd := hid hd
  have HB9 : Below w.heap.size w w9 := bnext (by (repeat (first | with_reducible exact hB | with_reducible refine Below.alloc ?_ (by have := hB.size; simp; try omega) _ | with_reducible refine Below.setCell ?_ (by have := hB.size; simp; try omega) _ | with_reducible refine below_drewN ?_ _ | with_reducible refine Below.drew ?_))) hb9
  clear ho hd hb9
  clear b0 b1 b2 b3 b4 b5 b6 b7 b8
  go_wp2_with fail
  go_ret2
  exact RetDo2.of_set _ Ho.out Hd.out HB9 (fun g hg ha hp => Hav.out g hg ha (ha _ (getR_mem Hg.out).1))
set_option maxRecDepth 100000 in
set_option maxHeartbeats 1600000 in
theorem rdo_k8 (oi ona onb onc ond ow oh : Int) (ol : List Px) (oA : Option Addr) (on oc : Nat) (A : Option Addr) (n c : Nat) (rs : List (FAt FObj)) (r0 : FAt FObj) (w : World) (h : Objs w A n rs) (hp : Pixs w oA on ol) (hr : Rise (dat rs)) (hn : n ≤ 1000) (hg : getR oi rs = some r0) (fr : PicFine r0.x.pic) (fs : PicFine ⟨ow, oh, ol⟩) (hx : -20 ≤ ona ∧ ona ≤ 20) (hy : -20 ≤ onb ∧ onb ≤ 20) :
    Calls Try.prog 41 #[.slice A n c, .agg #[.int .i64 8, .int .i64 oi, .int .i64 ona, .int .i64 onb, .int .i64 onc, .int .i64 ond, .int .i64 ow, .int .i64 oh, .slice oA on oc]] w (RetDo2 rs none (setP (turnP r0.x ⟨8, oi, ona, onb, onc, ond, ⟨ow, oh, ol⟩⟩) (dat rs)) (.int .i64 0) w) := by
  obtain ⟨⟨ri, rx, ry, ⟨rw, rh, rl⟩, ⟨cx, cy, cw, ch⟩, sh⟩, rA, rn, rc⟩ := r0
  have hpx : Pixs w rA rn rl := h.2.2 _ (getR_mem hg).1
  have Hpx := hid hpx
  clear hpx
  have Hg := hid hg
  clear hg
  have Hget := hid (fun W (hb : Below w.heap.size w W) => rget_any A n c rs oi W (h.below hb) hr hn)
  have Hset := hid (fun (r : FAt FObj) W (hb : Below w.heap.size w W) (hp : Pixs W r.A r.n r.x.pic.p) => rset_any A n c rs r W (h.below hb) hp hr hn)
  have HO := hid h
  have Hp := hid hp
  have HR := hid hr
  clear h hp hr
  have e8 : turnP ⟨ri, rx, ry, ⟨rw, rh, rl⟩, ⟨cx, cy, cw, ch⟩, sh⟩ ⟨8, oi, ona, onb, onc, ond, ⟨ow, oh, ol⟩⟩ = ⟨ri, rx, ry, ⟨rw, rh, (changeP addP ⟨rw, rh, rl⟩ ⟨ow, oh, ol⟩ ona onb).p⟩, ⟨cx, cy, cw, ch⟩, sh⟩ := rfl
  have hch : changeP addP ⟨rw, rh, rl⟩ ⟨ow, oh, ol⟩ ona onb = ⟨rw, rh, (changeP addP ⟨rw, rh, rl⟩ ⟨ow, oh, ol⟩ ona onb).p⟩ := rfl
  have hcall := fun W (hb : Below w.heap.size w W) => changedAdd_any ⟨⟨rw, rh, rl⟩, rA, rn, rc⟩ ⟨⟨ow, oh, ol⟩, oA, on, oc⟩ ona onb W (Hpx.out.below hb) (Hp.out.below hb) fr fs (by omega) (by omega)
  rw [e8]
  simp only at hcall
  rw [hch] at hcall
  generalize (changeP addP ⟨rw, rh, rl⟩ ⟨ow, oh, ol⟩ ona onb).p = L2 at *
  have Hcall := hid hcall
  clear hcall e8 hch fr fs hx hy
  go_enter Try.func41, Try.ntmps41
  go_upto_region 1 with fail
  obtain ⟨W0, hW0⟩ : ∃ W0, W0 = w.alloc (.cells #[.int .i64 8, .int .i64 oi, .int .i64 ona, .int .i64 onb, .int .i64 onc, .int .i64 ond, .int .i64 ow, .int .i64 oh, .slice oA on oc] 51) := ⟨_, rfl⟩
  have hB0 : Below w.heap.size w W0 := by rw [hW0]; exact (Below.refl w.heap.size w).alloc (Nat.le_refl _) _
  have z0 : w.heap.size < W0.heap.size := by rw [hW0]; simp
  have CE0 : Hid (OpBox W0 w.heap.size 8 oi ona onb onc ond ow oh oA on oc) := by show OpBox _ _ _ _ _ _ _ _ _ _ _ _ _; rw [hW0]; refine ⟨?_, ?_, ?_, ?_, ?_, ?_, ?_, ?_, ?_⟩ <;> simp
  rw [← hW0]
  clear hW0
  obtain ⟨b0, b1, b2, b3, b4, b5, b6, b7, b8⟩ := CE0.out
  go_wp2_with fail
  refine (Hget.out W0 hB0).mono ?_
  rintro e w1 ⟨rfl, hb1⟩
  rw [Hg.out]
  unfold getV
  clear b0 b1 b2 b3 b4 b5 b6 b7 b8
  have CE1 := hid (CE0.out.below hb1 z0)
  have hB : Below w.heap.size w w1 := bnext hB0 hb1
  have z1 : w.heap.size < w1.heap.size := Nat.lt_of_lt_of_le z0 hb1.size
  have zne : w.heap.size ≠ w1.heap.size := by omega
  clear CE0 hB0 hb1 z0
  obtain ⟨b0, b1, b2, b3, b4, b5, b6, b7, b8⟩ := CE1.out
  go_wp2_with fail
  refine (Hcall.out _ (by (repeat (first | with_reducible exact hB | with_reducible refine Below.alloc ?_ (by have := hB.size; simp; try omega) _ | with_reducible refine Below.setCell ?_ (by have := hB.size; simp; try omega) _ | with_reducible refine below_drewN ?_ _ | with_reducible refine Below.drew ?_)))).mono ?_
  rintro e w2 ⟨A2, c2, rfl, hp2, hnew, hb2⟩
  simp only at hp2 ⊢
  obtain ⟨hc, hf⟩ := bcell hb2
  have Hp2 := hid hp2
  have Hnew := hid hnew
  have HW1 := hB.size
  have hB2 : Below w.heap.size w w2 := bnext (by (repeat (first | with_reducible exact hB | with_reducible refine Below.alloc ?_ (by have := hB.size; simp; try omega) _ | with_reducible refine Below.setCell ?_ (by have := hB.size; simp; try omega) _ | with_reducible refine below_drewN ?_ _ | with_reducible refine Below.drew ?_))) hb2
  have z2 : w1.heap.size < w2.heap.size := by have := hb2.size; simp at this; omega
  clear hp2 hnew
  generalize L2.length = n2 at *
  go_wp2_with fail
  have hB : Below w.heap.size w w2 := hB2
  have zz := hB.size
  refine (Hset.out ⟨⟨ri, rx, ry, ⟨rw, rh, L2⟩, ⟨cx, cy, cw, ch⟩, sh⟩, A2, n2, c2⟩ _ (by (repeat (first | with_reducible exact hB | with_reducible refine Below.alloc ?_ (by have := hB.size; simp; try omega) _ | with_reducible refine Below.setCell ?_ (by have := hB.size; simp; try omega) _ | with_reducible refine below_drewN ?_ _ | with_reducible refine Below.drew ?_))) (pixs_off (pixs_off (pixs_off Hp2.out (fun a ha => by have := Hnew.out a ha; simp at this; omega) _ _) (fun a ha => by have := Hnew.out a ha; simp at this; omega) _ _) (fun a ha => by have := Hnew.out a ha; simp at this; omega) _ _)).mono ?_
  rintro e w9 ⟨A9, n9, c9, rs9, rfl, ho, hd, hb9, hav⟩
  have Hav := hid (fun g (hg : g < w.heap.size) => hav g (Nat.lt_of_lt_of_le hg (Below.size (by (repeat (first | with_reducible exact hB | with_reducible refine Below.alloc ?_ (by have := hB.size; simp; try omega) _ | with_reducible refine Below.setCell ?_ (by have := hB.size; simp; try omega) _ | with_reducible refine below_drewN ?_ _ | with_reducible refine Below.drew ?_))))))
  clear hav
  have Ho := hid ho
  have Hd := hid hd
  have HB9 : Below w.heap.size w w9 := bnext (by (repeat (first | with_reducible exact hB | with_reducible refine Below.alloc ?_ (by have := hB.size; simp; try omega) _ | with_reducible refine Below.setCell ?_ (by have := hB.size; simp; try omega) _ | with_reducible refine below_drewN ?_ _ | with_reducible refine Below.drew ?_))) hb9
  clear ho hd hb9
  clear b0 b1 b2 b3 b4 b5 b6 b7 b8
  go_wp2_with fail
  go_ret2
  exact RetDo2.of_set _ Ho.out Hd.out HB9 (fun g hg ha hp => Hav.out g hg ha (fun a e => by have h1 := Hnew.out a e; simp at h1; have h2 := HW1; omega))
set_option maxRecDepth 100000 in
set_option maxHeartbeats 1600000 in
theorem rdo_k9 (oi ona onb onc ond ow oh : Int) (ol : List Px) (oA : Option Addr) (on oc : Nat) (A : Option Addr) (n c : Nat) (rs : List (FAt FObj)) (r0 : FAt FObj) (w : World) (h : Objs w A n rs) (hp : Pixs w oA on ol) (hr : Rise (dat rs)) (hn : n ≤ 1000) (hg : getR oi rs = some r0) (fr : PicFine r0.x.pic) (fs : PicFine ⟨ow, oh, ol⟩) (hx : -20 ≤ ona ∧ ona ≤ 20) (hy : -20 ≤ onb ∧ onb ≤ 20) :
    Calls Try.prog 41 #[.slice A n c, .agg #[.int .i64 9, .int .i64 oi, .int .i64 ona, .int .i64 onb, .int .i64 onc, .int .i64 ond, .int .i64 ow, .int .i64 oh, .slice oA on oc]] w (RetDo2 rs none (setP (turnP r0.x ⟨9, oi, ona, onb, onc, ond, ⟨ow, oh, ol⟩⟩) (dat rs)) (.int .i64 0) w) := by
  obtain ⟨⟨ri, rx, ry, ⟨rw, rh, rl⟩, ⟨cx, cy, cw, ch⟩, sh⟩, rA, rn, rc⟩ := r0
  have hpx : Pixs w rA rn rl := h.2.2 _ (getR_mem hg).1
  have Hpx := hid hpx
  clear hpx
  have Hg := hid hg
  clear hg
  have Hget := hid (fun W (hb : Below w.heap.size w W) => rget_any A n c rs oi W (h.below hb) hr hn)
  have Hset := hid (fun (r : FAt FObj) W (hb : Below w.heap.size w W) (hp : Pixs W r.A r.n r.x.pic.p) => rset_any A n c rs r W (h.below hb) hp hr hn)
  have HO := hid h
  have Hp := hid hp
  have HR := hid hr
  clear h hp hr
  have e8 : turnP ⟨ri, rx, ry, ⟨rw, rh, rl⟩, ⟨cx, cy, cw, ch⟩, sh⟩ ⟨9, oi, ona, onb, onc, ond, ⟨ow, oh, ol⟩⟩ = ⟨ri, rx, ry, ⟨rw, rh, (changeP putP ⟨rw, rh, rl⟩ ⟨ow, oh, ol⟩ ona onb).p⟩, ⟨cx, cy, cw, ch⟩, sh⟩ := rfl
  have hch : changeP putP ⟨rw, rh, rl⟩ ⟨ow, oh, ol⟩ ona onb = ⟨rw, rh, (changeP putP ⟨rw, rh, rl⟩ ⟨ow, oh, ol⟩ ona onb).p⟩ := rfl
  have hcall := fun W (hb : Below w.heap.size w W) => changedPut_any ⟨⟨rw, rh, rl⟩, rA, rn, rc⟩ ⟨⟨ow, oh, ol⟩, oA, on, oc⟩ ona onb W (Hpx.out.below hb) (Hp.out.below hb) fr fs (by omega) (by omega)
  rw [e8]
  simp only at hcall
  rw [hch] at hcall
  generalize (changeP putP ⟨rw, rh, rl⟩ ⟨ow, oh, ol⟩ ona onb).p = L2 at *
  have Hcall := hid hcall
  clear hcall e8 hch fr fs hx hy
  go_enter Try.func41, Try.ntmps41
  go_upto_region 1 with fail
  obtain ⟨W0, hW0⟩ : ∃ W0, W0 = w.alloc (.cells #[.int .i64 9, .int .i64 oi, .int .i64 ona, .int .i64 onb, .int .i64 onc, .int .i64 ond, .int .i64 ow, .int .i64 oh, .slice oA on oc] 51) := ⟨_, rfl⟩
  have hB0 : Below w.heap.size w W0 := by rw [hW0]; exact (Below.refl w.heap.size w).alloc (Nat.le_refl _) _
  have z0 : w.heap.size < W0.heap.size := by rw [hW0]; simp
  have CE0 : Hid (OpBox W0 w.heap.size 9 oi ona onb onc ond ow oh oA on oc) := by show OpBox _ _ _ _ _ _ _ _ _ _ _ _ _; rw [hW0]; refine ⟨?_, ?_, ?_, ?_, ?_, ?_, ?_, ?_, ?_⟩ <;> simp
  rw [← hW0]
  clear hW0
  obtain ⟨b0, b1, b2, b3, b4, b5, b6, b7, b8⟩ := CE0.out
  go_wp2_with fail
  refine (Hget.out W0 hB0).mono ?_
  rintro e w1 ⟨rfl, hb1⟩
  rw [Hg.out]
  unfold getV
  clear b0 b1 b2 b3 b4 b5 b6 b7 b8
  have CE1 := hid (CE0.out.below hb1 z0)
  have hB : Below w.heap.size w w1 := bnext hB0 hb1
  have z1 : w.heap.size < w1.heap.size := Nat.lt_of_lt_of_le z0 hb1.size
  have zne : w.heap.size ≠ w1.heap.size := by omega
  clear CE0 hB0 hb1 z0
  obtain ⟨b0, b1, b2, b3, b4, b5, b6, b7, b8⟩ := CE1.out
  go_wp2_with fail
  refine (Hcall.out _ (by (repeat (first | with_reducible exact hB | with_reducible refine Below.alloc ?_ (by have := hB.size; simp; try omega) _ | with_reducible refine Below.setCell ?_ (by have := hB.size; simp; try omega) _ | with_reducible refine below_drewN ?_ _ | with_reducible refine Below.drew ?_)))).mono ?_
  rintro e w2 ⟨A2, c2, rfl, hp2, hnew, hb2⟩
  simp only at hp2 ⊢
  obtain ⟨hc, hf⟩ := bcell hb2
  have Hp2 := hid hp2
  have Hnew := hid hnew
  have HW1 := hB.size
  have hB2 : Below w.heap.size w w2 := bnext (by (repeat (first | with_reducible exact hB | with_reducible refine Below.alloc ?_ (by have := hB.size; simp; try omega) _ | with_reducible refine Below.setCell ?_ (by have := hB.size; simp; try omega) _ | with_reducible refine below_drewN ?_ _ | with_reducible refine Below.drew ?_))) hb2
  have z2 : w1.heap.size < w2.heap.size := by have := hb2.size; simp at this; omega
  clear hp2 hnew
  generalize L2.length = n2 at *
  go_wp2_with fail
  have hB : Below w.heap.size w w2 := hB2
  have zz := hB.size
  refine (Hset.out ⟨⟨ri, rx, ry, ⟨rw, rh, L2⟩, ⟨cx, cy, cw, ch⟩, sh⟩, A2, n2, c2⟩ _ (by (repeat (first | with_reducible exact hB | with_reducible refine Below.alloc ?_ (by have := hB.size; simp; try omega) _ | with_reducible refine Below.setCell ?_ (by have := hB.size; simp; try omega) _ | with_reducible refine below_drewN ?_ _ | with_reducible refine Below.drew ?_))) (pixs_off (pixs_off (pixs_off Hp2.out (fun a ha => by have := Hnew.out a ha; simp at this; omega) _ _) (fun a ha => by have := Hnew.out a ha; simp at this; omega) _ _) (fun a ha => by have := Hnew.out a ha; simp at this; omega) _ _)).mono ?_
  rintro e w9 ⟨A9, n9, c9, rs9, rfl, ho, hd, hb9, hav⟩
  have Hav := hid (fun g (hg : g < w.heap.size) => hav g (Nat.lt_of_lt_of_le hg (Below.size (by (repeat (first | with_reducible exact hB | with_reducible refine Below.alloc ?_ (by have := hB.size; simp; try omega) _ | with_reducible refine Below.setCell ?_ (by have := hB.size; simp; try omega) _ | with_reducible refine below_drewN ?_ _ | with_reducible refine Below.drew ?_))))))
  clear hav
  have Ho := hid ho
  have Hd := hid hd
  have HB9 : Below w.heap.size w w9 := bnext (by (repeat (first | with_reducible exact hB | with_reducible refine Below.alloc ?_ (by have := hB.size; simp; try omega) _ | with_reducible refine Below.setCell ?_ (by have := hB.size; simp; try omega) _ | with_reducible refine below_drewN ?_ _ | with_reducible refine Below.drew ?_))) hb9
  clear ho hd hb9
  clear b0 b1 b2 b3 b4 b5 b6 b7 b8
  go_wp2_with fail
  go_ret2
  exact RetDo2.of_set _ Ho.out Hd.out HB9 (fun g hg ha hp => Hav.out g hg ha (fun a e => by have h1 := Hnew.out a e; simp at h1; have h2 := HW1; omega))
set_option maxRecDepth 100000 in
set_option maxHeartbeats 3200000 in
theorem rdo_k7 (oi ona onb onc ond ow oh : Int) (ol : List Px) (oA : Option Addr) (on oc : Nat) (A : Option Addr) (n c : Nat) (rs : List (FAt FObj)) (r0 : FAt FObj) (w : World) (h : Objs w A n rs) (hp : Pixs w oA on ol) (hr : Rise (dat rs)) (hn : n ≤ 1000) (hg : getR oi rs = some r0) :
    Calls Try.prog 41 #[.slice A n c, .agg #[.int .i64 7, .int .i64 oi, .int .i64 ona, .int .i64 onb, .int .i64 onc, .int .i64 ond, .int .i64 ow, .int .i64 oh, .slice oA on oc]] w (RetDo2 rs none (dropP oi (dat rs)) (.int .i64 0) w) := by
  obtain ⟨⟨ri, rx, ry, ⟨rw, rh, rl⟩, ⟨cx, cy, cw, ch⟩, sh⟩, rA, rn, rc⟩ := r0
  have hpx : Pixs w rA rn rl := h.2.2 _ (getR_mem hg).1
  have Hpx := hid hpx
  clear hpx
  have Hg := hid hg
  clear hg
  have Hget := hid (fun W (hb : Below w.heap.size w W) => rget_any A n c rs oi W (h.below hb) hr hn)
  have Hset := hid (fun (r : FAt FObj) W (hb : Below w.heap.size w W) (hp : Pixs W r.A r.n r.x.pic.p) => rset_any A n c rs r W (h.below hb) hp hr hn)
  have HO := hid h
  have Hp := hid hp
  have HR := hid hr
  clear h hp hr
  have Hl := hid HO.out.1
  obtain ⟨i0, hi, hz0, hz1, hz2⟩ := info_parts info_ob
  go_enter Try.func41, Try.ntmps41
  go_upto_region 1 with fail
  obtain ⟨W0, hW0⟩ : ∃ W0, W0 = w.alloc (.cells #[.int .i64 7, .int .i64 oi, .int .i64 ona, .int .i64 onb, .int .i64 onc, .int .i64 ond, .int .i64 ow, .int .i64 oh, .slice oA on oc] 51) := ⟨_, rfl⟩
  have hB0 : Below w.heap.size w W0 := by rw [hW0]; exact (Below.refl w.heap.size w).alloc (Nat.le_refl _) _
  have z0 : w.heap.size < W0.heap.size := by rw [hW0]; simp
  have CE0 : Hid (OpBox W0 w.heap.size 7 oi ona onb onc ond ow oh oA on oc) := by show OpBox _ _ _ _ _ _ _ _ _ _ _ _ _; rw [hW0]; refine ⟨?_, ?_, ?_, ?_, ?_, ?_, ?_, ?_, ?_⟩ <;> simp
  rw [← hW0]
  clear hW0
  obtain ⟨b0, b1, b2, b3, b4, b5, b6, b7, b8⟩ := CE0.out
  go_wp2_with fail
  refine (Hget.out W0 hB0).mono ?_
  rintro e w1 ⟨rfl, hb1⟩
  rw [Hg.out]
  unfold getV
  clear b0 b1 b2 b3 b4 b5 b6 b7 b8
  have CE1 := hid (CE0.out.below hb1 z0)
  have hB : Below w.heap.size w w1 := bnext hB0 hb1
  have z1 : w.heap.size < w1.heap.size := Nat.lt_of_lt_of_le z0 hb1.size
  have zne : w.heap.size ≠ w1.heap.size := by omega
  clear CE0 hB0 hb1 z0
  obtain ⟨b0, b1, b2, b3, b4, b5, b6, b7, b8⟩ := CE1.out
  go_wp2_with fail
  obtain ⟨W2, hW2⟩ : ∃ W2, W2 = w1.alloc (.cells #[.int .i64 ri, .int .i64 rx, .int .i64 ry, .int .i64 rw, .int .i64 rh, .slice rA rn rc, .int .i64 cx, .int .i64 cy, .int .i64 cw, .int .i64 ch, .bool sh] 89) := ⟨_, rfl⟩
  have hB2 : Below w.heap.size w W2 := by rw [hW2]; exact hB.alloc hB.size _
  have CE2 : Hid (OpBox W2 w.heap.size 7 oi ona onb onc ond ow oh oA on oc) := by rw [hW2]; exact hid (CE1.out.below ((Below.refl w1.heap.size w1).alloc (Nat.le_refl _) _) z1)
  have z2 : w.heap.size < W2.heap.size := by rw [hW2]; simp; omega
  rw [← hW2]
  clear b0 b1 b2 b3 b4 b5 b6 b7 b8 hW2
  go_loopw [8, 9] (fun v i wr => ∃ (k : Nat) (os : List (FAt FObj)), k ≤ n ∧ i = .int .i64 k ∧ Hid (OwnObjs os W2.heap.size wr v) ∧ Hid (os = dropR oi (rs.take k)) ∧ os.length ≤ k ∧ Below W2.heap.size W2 wr) (fun _ i _ => n - (intOf i).toNat)
  case atStart => exact ⟨0, [], by omega, rfl, hid (OwnObjs.nil _ _), hid rfl, by simp, Below.refl _ _⟩
  case round =>
    obtain ⟨k, os, hk, rfl, HOw, HI, hol, hbel⟩ := hrel
    have CE := hid (CE2.out.below hbel z2)
    have hzr : W2.heap.size ≤ wr.heap.size := hbel.size
    obtain ⟨b0, b1, b2, b3, b4, b5, b6, b7, b8⟩ := CE.out
    have hbel0 : Below w.heap.size w wr := bnext hB2 hbel
    by_cases hlt : k < n
    · have k1 : k < rs.length := by rw [Hl.out]; exact hlt
      obtain ⟨b, off, rfl, hbs, hc⟩ := HO.out.open_ (by omega)
      obtain ⟨d0, d1, d2, d3, d4, d5, d6, d7, d8, d9, d10⟩ := hc.cells hbel0 hbs k1
      have q2 : (k : Int) < (n : Int) := by omega
      have Hkeep := hid (fun h : rs[k].x.id ≠ oi => (show os ++ [rs[k]] = dropR oi (rs.take (k + 1)) from by
        rw [HI.out, List.take_succ_eq_append_getElem k1]; unfold dropR; rw [List.filter_append]; simp [h]))
      have Hskip := hid (fun h : rs[k].x.id = oi => (show os = dropR oi (rs.take (k + 1)) from by
        rw [HI.out, List.take_succ_eq_append_getElem k1]; unfold dropR; rw [List.filter_append]; simp [h]))
      generalize rs[k] = q at *
      by_cases hx : q.x.id = oi
      · have hx' : (q.x.id != oi) = false := by simp [hx]
        have hs := hid (Hskip.out hx)
        clear hx Hkeep Hskip hc
        go_wp2_with fail
        go_quiet (fail)
        go_wp2_with fail
        go_roundw
        case rel => exact ⟨k + 1, os, by omega, by go_num, HOw, hs, by omega, below_drewN hbel _⟩
        case measure => simp [intOf]; omega
      · have hx' : (q.x.id != oi) = true := by simp [hx]
        have hs := hid (Hkeep.out hx)
        clear hx Hkeep Hskip hc
        go_wp2_with fail
        go_quiet (fail)
        go_wp2_with (at_builtin; refine wpList_append_own _ rfl _ _ 40 rfl W2.heap.size 89 i0 _ 11 104 Try.underlying40 hi hz0 hz1 hz2 rfl (by decide) _ _ _ rfl (World.ownsRow.alloc HOw.out _) ⟨wr.heap.size, 0, none⟩ 1 1 (obCells q) rfl rfl (fun j u hu => new_cells _ #[.int .i64 q.x.id, .int .i64 q.x.x, .int .i64 q.x.y, .int .i64 q.x.pic.w, .int .i64 q.x.pic.h, .slice q.A q.n q.c, .int .i64 q.x.clip.x, .int .i64 q.x.clip.y, .int .i64 q.x.clip.w, .int .i64 q.x.clip.h, .bool q.x.shown] 89 j u hu) (fun u hu => obCells_one (rs := [q]) (by simpa using hu)) (by unfold maxLen; omega) (by omega) (by simp; omega) ?_)
        intro v1 w3 hown1 hgrow1 _
        have HOw1 : Hid (OwnObjs (os ++ [q]) W2.heap.size w3 v1) := own_snoc hown1
        have hbel1 : Below W2.heap.size W2 w3 := (Below.alloc (below_drewN hbel _) (by first | omega | (simp; omega)) _).grown hgrow1 (by simp; omega) (fun g hg => (World.ownsRow.lt HOw.out g hg).1)
        clear hown1 hgrow1
        go_wp2_with fail
        go_roundw
        case rel => exact ⟨k + 1, os ++ [q], by omega, by go_num, HOw1, hs, by simp; omega, hbel1⟩
        case measure => simp [intOf]; omega
    · obtain rfl : k = n := by omega
      have hdr := hid (show os = dropR oi rs from by rw [HI.out, List.take_of_length_le (by rw [Hl.out]; omega)])
      obtain ⟨A3, c3, rfl, -, -, ho⟩ := own_objs HOw.out (fun q hq => by rw [hdr.out] at hq; unfold dropR at hq; exact (HO.out.2.2 q (List.mem_filter.1 hq).1).below hbel0)
      have Ho := hid ho
      clear ho HI
      generalize os.length = m at *
      go_wp2_with fail
      go_ret2
      exact RetDo2.of_set _ Ho.out (by rw [hdr.out, dropR_dat]) hbel0 (fun g hg ha _ => ⟨fun a e => by obtain ⟨A4, c4, e4, hA4, -⟩ := own_slice HOw.out; injection e4 with e5; have := (hA4 a (e5 ▸ e)).1; omega, fun q hq => by rw [hdr.out] at hq; unfold dropR at hq; exact ha q (List.mem_filter.1 hq).1⟩)
end Fb
namespace Fb
open Go Go.Proofs Go.RowKit Go.Sort
theorem rdo_any3 (r : FAt FOp) (A : Option Addr) (n c : Nat) (rs : List (FAt FObj)) (w : World) (h : Objs w A n rs) (hp : Pixs w r.A r.n r.x.pic.p) (hf : ObjsFine (dat rs)) (hn : n ≤ 1000) (ho : opFault r.x = 0) :
    Calls Try.prog 41 #[.slice A n c, opV r] w (RetDo2 rs (if r.x.kind = 2 then r.A else none) (doP (dat rs) r.x).1 (.int .i64 (doP (dat rs) r.x).2) w) := by
  obtain ⟨-, -, -, hb, hpc⟩ := opFault_fine ho
  have hw := do_ways hf ho
  obtain ⟨⟨k, i, a, b, cc, d, ⟨pw, ph, pl⟩⟩, pA, pn, pc⟩ := r
  simp only at hp hw hb hpc ho
  unfold opV
  simp only
  rcases hw with rfl | ⟨hk, hg⟩ | ⟨r0, hg, hfo, hk⟩
  · rw [do_two_eq rfl, if_pos rfl]
    exact rdo_k2 i a b cc d pw ph pl pA pn pc A n c rs w h hp hf.1 hn
  · rw [do_none_eq hk (getP_none hg), if_neg hk]
    exact rdo_none k i a b cc d pw ph pl pA pn pc A n c rs w h hp hf.1 hn hk hg
  · rw [if_neg (by omega)]
    rcases hk with rfl | rfl | rfl | rfl | rfl | rfl | rfl
    · rw [do_turn_eq (by simp) (by simp) (getP_some hg)]
      exact rdo_k3 i a b cc d pw ph pl pA pn pc A n c rs r0 w h hp hf.1 hn hg
    · rw [do_turn_eq (by simp) (by simp) (getP_some hg)]
      exact rdo_k4 i a b cc d pw ph pl pA pn pc A n c rs r0 w h hp hf.1 hn hg
    · rw [do_turn_eq (by simp) (by simp) (getP_some hg)]
      cases h5 : decide (a = 1)
      · exact rdo_k5f i a b cc d pw ph pl pA pn pc A n c rs r0 w h hp hf.1 hn hg h5
      · exact rdo_k5t i a b cc d pw ph pl pA pn pc A n c rs r0 w h hp hf.1 hn hg h5
    · rw [do_turn_eq (by simp) (by simp) (getP_some hg)]
      exact rdo_k6 i a b cc d pw ph pl pA pn pc A n c rs r0 w h hp hf.1 hn hg
    · rw [do_seven_eq rfl (getP_some hg)]
      exact rdo_k7 i a b cc d pw ph pl pA pn pc A n c rs r0 w h hp hf.1 hn hg
    · rw [do_turn_eq (by simp) (by simp) (getP_some hg)]
      obtain ⟨hx, hy⟩ := boundB_place (Or.inl rfl) hb
      exact rdo_k8 i a b cc d pw ph pl pA pn pc A n c rs r0 w h hp hf.1 hn hg hfo.2.2 (picFault_fine.1 (hpc (by decide))) hx hy
    · rw [do_turn_eq (by simp) (by simp) (getP_some hg)]
      obtain ⟨hx, hy⟩ := boundB_place (Or.inr rfl) hb
      exact rdo_k9 i a b cc d pw ph pl pA pn pc A n c rs r0 w h hp hf.1 hn hg hfo.2.2 (picFault_fine.1 (hpc (by decide))) hx hy
theorem rdo_any (r : FAt FOp) (A : Option Addr) (n c : Nat) (rs : List (FAt FObj)) (w : World) (h : Objs w A n rs) (hp : Pixs w r.A r.n r.x.pic.p) (hf : ObjsFine (dat rs)) (hn : n ≤ 1000) (ho : opFault r.x = 0) :
    Calls Try.prog 41 #[.slice A n c, opV r] w (RetDo (doP (dat rs) r.x).1 (.int .i64 (doP (dat rs) r.x).2) w) := (rdo_any3 r A n c rs w h hp hf hn ho).mono fun _ _ h => h.fst
end Fb

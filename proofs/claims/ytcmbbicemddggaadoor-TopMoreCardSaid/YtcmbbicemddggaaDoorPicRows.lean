/- picture.rows returns the rows of bytes of a picture. Condition: a picture that may be. -/
import Derived.Test.YtcmbbicemddggaaDoorPicRow
import Derived.Test.YtcmbbicemddggaaDoorBlend
import Derived.Deep.RegionHeld3
namespace Fb
open Go Go.Proofs Go.RowKit Go.Sort
attribute [local go_sem ↓] Go.wp_at_zero Go.wp_at_succ
def irCell (r : FAt (List Int)) : List Value := [.slice r.A r.n r.c]
theorem info_ints : (Tryd.prog.info? 83).map (fun i => (i.zero, i.size, i.bytes)) = some (some (.slice none 0 0), 1, 24) := by kernel_rfl
/-- a slice of slices of ints -/
def IRows (w : World) (A : Option Addr) (n : Nat) (rs : List (FAt (List Int))) : Prop := rs.length = n ∧ Row w A n 1 (rs.flatMap irCell) ∧ ∀ r ∈ rs, Ints w r.A r.n r.x
theorem IRows.below {w w' : World} {A : Option Addr} {n : Nat} {rs : List (FAt (List Int))} (h : IRows w A n rs) (hb : Below w.heap.size w w') : IRows w' A n rs := ⟨h.1, h.2.1.below hb, fun r hr => (h.2.2 r hr).below hb⟩
/-- the call returns the rows of a picture, in new memory -/
def RetRows (p : FPic) (w : World) (e : Ending) (w' : World) : Prop := ∃ (A : Option Addr) (c : Nat) (rs : List (FAt (List Int))), e = .returned (.slice A p.h.toNat c) ∧ IRows w' A p.h.toNat rs ∧ (Typed w' A p.h.toNat 83 ∧ ∀ r ∈ rs, Typed w' r.A r.n 3) ∧ (∀ k (h : k < rs.length), rs[k].x = rowI p.w.toNat p.p k) ∧ Below w.heap.size w w'
/-- the first x pixels of row y, flat -/
def partI (W : Nat) (l : List Px) (y x : Nat) : List Int := flatPx ((l.drop (y * W)).take x)
theorem partI_succ {W : Nat} {l : List Px} {y x : Nat} (h : y * W + x < l.length) : partI W l y (x + 1) = partI W l y x ++ [l[y * W + x].1, l[y * W + x].2] := by
  unfold partI
  rw [List.take_succ_eq_append_getElem (by rw [List.length_drop]; omega), flatPx_append, List.getElem_drop]
  rfl
theorem partI_len {W : Nat} {l : List Px} {y x : Nat} (h : y * W + x ≤ l.length) : (partI W l y x).length = 2 * x := by
  unfold partI
  rw [flatPx_len, List.length_take, List.length_drop]
  omega
theorem own_part {w1 : World} {base : Nat} {v : Value} {W : Nat} {l : List Px} {y x : Nat} (h : y * W + x < l.length) (ho : w1.ownsRow base 3 1 v (2 * x + 2) ((partI W l y x).map (Value.int .i64) ++ [.int .i64 l[y * W + x].1, .int .i64 l[y * W + x].2])) :
    w1.ownsRow base 3 1 v (2 * (x + 1)) ((partI W l y (x + 1)).map (Value.int .i64)) := by
  rw [partI_succ h, List.map_append]
  exact ho
set_option maxRecDepth 100000 in
set_option maxHeartbeats 4000000 in
theorem rows_any (r : FAt FPic) (w : World) (hp : Pixs w r.A r.n r.x.p) (fr : PicFine r.x) :
    Calls Tryd.prog 50 #[.agg #[.int .i64 r.x.w, .int .i64 r.x.h, .slice r.A r.n r.c]] w (RetRows r.x w) := by
  obtain ⟨⟨pw, ph, l⟩, A, n, c⟩ := r
  obtain ⟨f1, f2, f3, f4, -, -⟩ := id fr
  simp only at f1 f2 f3 f4
  obtain ⟨P, rfl⟩ : ∃ P : Nat, pw = (P : Int) := ⟨pw.toNat, by omega⟩
  obtain ⟨H, rfl⟩ : ∃ H : Nat, ph = (H : Int) := ⟨ph.toNat, by omega⟩
  obtain ⟨i0, hi, hz0, hz1, hz2⟩ := info_parts info_int
  obtain ⟨j0, hj, hy0, hy1, hy2⟩ := info_parts info_ints
  have hln := pic_len fr
  have hlen : l.length = P * H := by
    have h5 := fr.2.2.2.2.1
    simp only at h5
    have : ((l.length : Nat) : Int) = ((P * H : Nat) : Int) := by rw [h5]; simp
    omega
  simp only at hp hln ⊢
  rw [hp.1] at hln
  have Hl := hid hp.1
  have Hlen := hid hlen
  obtain ⟨b, off, rfl, hb, hc⟩ := hp.open_ (by omega)
  have Hc := hid hc
  clear hp hc fr hlen
  have hP1 : 1 ≤ P := by omega
  have hP2 : P ≤ 8 := by omega
  have hH1 : 1 ≤ H := by omega
  have hH2 : H ≤ 8 := by omega
  clear f1 f2 f3 f4
  go_enter Tryd.func50, Tryd.ntmps50
  go_upto_region 1 with fail
  obtain ⟨W0, hW0⟩ : ∃ W0, W0 = w.alloc (.cells #[.int .i64 (P : Int), .int .i64 (H : Int), .slice (some ⟨b, off, none⟩) n c] 46) := ⟨_, rfl⟩
  have hB0 : Below w.heap.size w W0 := by rw [hW0]; exact (Below.refl w.heap.size w).alloc (Nat.le_refl _) _
  have c0 : W0.cell? ⟨w.heap.size, 0, none⟩ = some (.int .i64 (P : Int)) := by rw [hW0]; go_simp
  have c1 : W0.cell? ⟨w.heap.size, 1, none⟩ = some (.int .i64 (H : Int)) := by rw [hW0]; go_simp
  have c2 : W0.cell? ⟨w.heap.size, 2, none⟩ = some (.slice (some ⟨b, off, none⟩) n c) := by rw [hW0]; go_simp
  have z0 : w.heap.size < W0.heap.size := by rw [hW0]; simp
  rw [← hW0]
  clear hW0
  go_wp2_with fail
  go_loopw [3, 9] (fun v i wr => ∃ (y : Nat) (rs : List (FAt (List Int))), y ≤ H ∧ i = .int .i64 y ∧ rs.length = y ∧ wr.ownsRow W0.heap.size 83 1 v y (rs.flatMap irCell) ∧ RowsHeld 1 3 (fun q : FAt (List Int) => q.x.map (Value.int .i64)) wr v.ownBlock rs ∧ Hid (∀ k (h : k < rs.length), rs[k].x = rowI P l k ∧ rs[k].n = rs[k].x.length) ∧ Below W0.heap.size W0 wr) (fun _ i _ => H - (intOf i).toNat)
  case atStart => exact ⟨0, [], by omega, rfl, rfl, World.ownsRow_nil _ _ _ _, RowsHeld.nil, hid (fun k h => by cases h), Below.refl _ _⟩
  case round =>
    obtain ⟨wo, rfl⟩ : ∃ wo : World, wo = wr := ⟨_, rfl⟩
    obtain ⟨y, rs, hy, rfl, hrs, hown, hrh, HX, hbel⟩ := hrel
    have d0 := (hbel.cell (p := ⟨w.heap.size, 0, none⟩) z0).trans c0
    have d1 := (hbel.cell (p := ⟨w.heap.size, 1, none⟩) z0).trans c1
    have d2 := (hbel.cell (p := ⟨w.heap.size, 2, none⟩) z0).trans c2
    by_cases hlt : y < H
    · obtain ⟨YP, hYP⟩ : ∃ YP, y * P = YP := ⟨_, rfl⟩
      have hYPi : (y : Int) * (P : Int) = (YP : Int) := by rw [← hYP]; simp
      have hYPn : YP + P ≤ n := by
        have h2 : (y + 1) * P ≤ H * P := Nat.mul_le_mul_right _ hlt
        rw [Nat.add_mul, hYP, Nat.mul_comm H P, ← Hlen.out, Hl.out] at h2
        omega
      have HYP := hid hYP
      have HYPi := hid hYPi
      have Hown := hid hown
      have Hrh := hid hrh
      have Hrs := hid hrs
      clear hYP hYPi hown hrh hrs
      go_wp2_with fail
      go_loopw [5, 14] (fun v i wr => ∃ x : Nat, x ≤ P ∧ i = .int .i64 x ∧ wr.ownsRow wo.heap.size 3 1 v (2 * x) ((partI P l y x).map (Value.int .i64)) ∧ Below wo.heap.size wo wr) (fun _ i _ => P - (intOf i).toNat)
      case atStart => exact ⟨0, by omega, rfl, World.ownsRow_nil _ _ _ _, Below.refl _ _⟩
      case round =>
        obtain ⟨x, hx, rfl, hown, hbi⟩ := hrel
        have hz1' := hbel.size
        have b0 := (hbi.cell (p := ⟨w.heap.size, 0, none⟩) (by show w.heap.size < _; omega)).trans d0
        have b2 := (hbi.cell (p := ⟨w.heap.size, 2, none⟩) (by show w.heap.size < _; omega)).trans d2
        by_cases hxl : x < P
        · have hkl : y * P + x < l.length := by rw [HYP.out, Hl.out]; omega
          obtain ⟨x0, x1⟩ := Hc.out (y * P + x) hkl
          have Hpush := hid (fun (w1 : World) (v : Value) hh => own_part (w1 := w1) (base := wo.heap.size) (v := v) hkl hh)
          generalize l[y * P + x] = px at *
          obtain ⟨pv, pa⟩ := px
          rw [HYP.out] at x0 x1
          simp only at x0 x1 Hpush
          have hbw := hB0.trans (hbel.mono hB0.size)
          have hsz := hbw.size
          have p0 := (hbi.cell (p := ⟨b, off + (YP + x) * 2, none⟩) (by show b < _; omega)).trans ((hbw.cell (p := ⟨b, off + (YP + x) * 2, none⟩) hb).trans x0)
          have p1 := (hbi.cell (p := ⟨b, off + (YP + x) * 2 + 1, none⟩) (by show b < _; omega)).trans ((hbw.cell (p := ⟨b, off + (YP + x) * 2 + 1, none⟩) hb).trans x1)
          obtain ⟨KK, hKK⟩ : ∃ KK, YP + x = KK := ⟨_, rfl⟩
          rw [hKK] at p0 p1
          have e1 : IntKind.i64.wrap ((y : Int) * (P : Int)) = (YP : Int) := by rw [HYPi.out]; exact IntWalk.i64_in _ (by omega)
          have e2 : IntKind.i64.wrap ((YP : Int) + (x : Int)) = (KK : Int) := by rw [show (YP : Int) + (x : Int) = (KK : Int) by omega]; exact IntWalk.i64_in _ (by omega)
          have q1 : (0 : Int) ≤ (KK : Int) := by omega
          have q2 : (KK : Int) < (n : Int) := by omega
          have HKK := hid hKK
          have Howi := hid hown
          clear hKK x0 x1 hown hkl
          go_upto_region 9 with fail
          go_region_held3 (fun W => W.cell? ⟨w.heap.size, 0, none⟩ = some (.int .i64 (P : Int)) ∧ W.cell? ⟨w.heap.size, 2, none⟩ = some (.slice (some ⟨b, off, none⟩) n c) ∧ W.cell? ⟨b, off + KK * 2, none⟩ = some (.int .i64 pv) ∧ W.cell? ⟨b, off + KK * 2 + 1, none⟩ = some (.int .i64 pa)) (first | exact ⟨n0, n1, n2, n3⟩ | go_keep)
            ((have HO := own_keep Howi.out (((Below.refl wr.heap.size wr).drew).alloc (Nat.le_refl _) (.cells #[.int .i64 pv, .int .i64 pa] 3)); refine step_append_lies _ (by rfl) _ _ _ (by rfl) wo.heap.size 3 i0 (.int .i64 0) 1 8 Tryd.underlying83 hi hz0 hz1 hz2 rfl (by decide) _ _ _ (by rfl) HO ⟨_, 0, none⟩ 2 2 [.int .i64 pv, .int .i64 pa] (by rfl) rfl (new_cells _ _ _) (by intro u hu; simp at hu; rcases hu with rfl | rfl <;> rfl) (by decide) (by unfold maxLen; omega) (by omega) (by have h1 := hbi.size; simp; omega) _ rfl ?_; intro g cap w1 hown1 hgrow hat hlt1; have HA : Below wo.heap.size wr w1 := (((Below.refl wo.heap.size wr).drew).alloc hbi.size _).grown hgrow (by have h1 := hbi.size; simp; omega) (fun g hg => (HO.lt g hg).1); have n0 := (HA.cell (p := ⟨w.heap.size, 0, none⟩) (by show w.heap.size < _; omega)).trans b0; have n1 := (HA.cell (p := ⟨w.heap.size, 2, none⟩) (by show w.heap.size < _; omega)).trans b2; have n2 := (HA.cell (p := ⟨b, off + KK * 2, none⟩) (by show b < _; omega)).trans p0; have n3 := (HA.cell (p := ⟨b, off + KK * 2 + 1, none⟩) (by show b < _; omega)).trans p1))
          all_goals (have HP := Hpush.out _ _ hown1)
          all_goals (have HB2 := hbi.trans (HA.mono (Nat.le_refl _)))
          all_goals (clear hgrow hown1 HO Hpush hat hlt1 e1 e2 n0 n1 n2 n3 b0 b2 p0 p1 HA)
          all_goals (go_wp2_with fail)
          all_goals go_roundw
          case rel => exact ⟨x + 1, by omega, by go_num, HP, HB2⟩
          case measure => simp [intOf]; omega
        · obtain rfl : P = x := by omega
          obtain ⟨A0, c0', rfl, hA, -⟩ := own_slice hown
          have Howr := hid hown
          clear hown
          go_wp2_with (at_builtin; refine wpList_append_lies _ rfl _ _ 115 rfl W0.heap.size 83 j0 (.slice none 0 0) 1 24 Tryd.underlying115 hj hy0 hy1 hy2 rfl (by decide) _ _ _ rfl (own_keep Hown.out (hbi.alloc hbi.size _)) ⟨wr.heap.size, 0, none⟩ 1 1 [.slice A0 (2 * P) c0'] rfl rfl (cell_one_new _ _ _) ?c2 (by decide) ?c3 ?c4 ?c5 _ rfl ?_)
          case c2 => intro u hu; simp at hu; subst hu; rfl
          case c3 => unfold maxLen; omega
          case c4 => omega
          case c5 => have h1 := hbi.size; simp; omega
          intro g cap w1 hown1 hgrow hat hlt1
          have hprt : partI P l y P = rowI P l y := rfl
          have hpl := partI_len (W := P) (l := l) (y := y) (x := P) (by rw [HYP.out, Hl.out]; omega)
          rw [hprt] at hpl Howr
          have HK : RowsHeld 1 3 (fun q : FAt (List Int) => q.x.map (Value.int .i64)) w1 (Value.slice (some ⟨g, 0, none⟩) (y + 1) cap).ownBlock (rs ++ [⟨rowI P l y, A0, 2 * P, c0'⟩]) := by
            have h1 := (Hrh.out.below hbi).below ((Below.refl wr.heap.size wr).alloc (Nat.le_refl _) (.cells #[.slice A0 (2 * P) c0'] 83))
            have h2 := (Typed.own Howr.out).below ((Below.refl wr.heap.size wr).alloc (Nat.le_refl _) (.cells #[.slice A0 (2 * P) c0'] 83))
            have h3 := (Row.of_own Howr.out).below ((Below.refl wr.heap.size wr).alloc (Nat.le_refl _) (.cells #[.slice A0 (2 * P) c0'] 83))
            exact RowsHeld.grown (h1.snoc (r := ⟨rowI P l y, A0, 2 * P, c0'⟩) h3 h2 (fun hn a ha e => by
              have h4 := (Hown.out.lt _ e).2
              have h5 := (hA a ha).1
              omega)) hgrow (by simpa using hat)
          have HX2 := hid (show ∀ k (h : k < (rs ++ [(⟨rowI P l y, A0, 2 * P, c0'⟩ : FAt (List Int))]).length), (rs ++ [(⟨rowI P l y, A0, 2 * P, c0'⟩ : FAt (List Int))])[k].x = rowI P l k ∧ (rs ++ [(⟨rowI P l y, A0, 2 * P, c0'⟩ : FAt (List Int))])[k].n = (rs ++ [(⟨rowI P l y, A0, 2 * P, c0'⟩ : FAt (List Int))])[k].x.length by
            intro k hk
            by_cases hk2 : k < rs.length
            · rw [List.getElem_append_left hk2]; exact HX.out k hk2
            · have hk3 : k = rs.length := by simp at hk; omega
              subst hk3
              rw [List.getElem_append_right (Nat.le_refl _)]
              simp only [Nat.sub_self, List.getElem_cons_zero, Hrs.out]
              exact ⟨trivial, hpl.symm⟩)
          have HB2 : Below W0.heap.size W0 w1 := ((hbel.trans (hbi.mono hbel.size)).alloc (by have h1 := hbi.size; omega) _).grown hgrow (by have h1 := hbi.size; simp; omega) (fun g hg => (Hown.out.lt g hg).1)
          have HO2 : w1.ownsRow W0.heap.size 83 1 (.slice (some ⟨g, 0, none⟩) (y + 1) cap) (y + 1) ((rs ++ [(⟨rowI P l y, A0, 2 * P, c0'⟩ : FAt (List Int))]).flatMap irCell) := by
            rw [List.flatMap_append]; exact hown1
          clear hown1 hgrow hat hlt1 b0 b2 Howr hpl hprt HX
          go_wp2_with fail
          go_roundw
          case rel => exact ⟨y + 1, rs ++ [⟨rowI P l y, A0, 2 * P, c0'⟩], by omega, by go_num, by simp [Hrs.out], HO2, HK, HX2, HB2⟩
          case measure => simp [intOf]; omega
    · obtain rfl : H = y := by omega
      obtain ⟨A0, c0', rfl, hA, -⟩ := own_slice hown
      have Ho := hid hown
      have Hrh := hid hrh
      have Hrs := hid hrs
      clear hown hrh hrs
      go_wp2_with fail
      go_ret
      have hT := Typed.own Ho.out
      have hR := Row.of_own Ho.out
      refine ⟨A0, c0', rs, by simp, ⟨by simp; exact Hrs.out, by simp; exact hR, fun r hr => ?_⟩, ⟨by simp; exact hT, fun r hr => (Hrh.out r hr).2.1⟩, fun k hk => by simp; exact (HX.out k hk).1, hB0.trans (hbel.mono hB0.size)⟩
      obtain ⟨k, hk, rfl⟩ := List.getElem_of_mem hr
      exact ⟨(HX.out k hk).2.symm, (Hrh.out _ hr).1⟩
end Fb

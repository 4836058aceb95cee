/- RateWindow: the walk. -/
import Derived.Test.YtnbfmmnbjjeecaaSorted
import Derived.Test.YtnbfmmnbjjeecaaWinLaw
import Derived.Test.YtnbfmmnbjjeecaaTail
import Derived.Deep.Cut
namespace Go.Proofs.Ytnbfmmnbjjeecaa
open Go.RowKit
set_option linter.unusedVariables false
theorem window_early (m t p b : Int) (tv : Value) (w : World) (h : p < 1 ∨ 1 ≤ p ∧ 1000 < p ∨ 1 ≤ p ∧ p ≤ 1000 ∧ b < 1 ∨ 1 ≤ p ∧ p ≤ 1000 ∧ 1 ≤ b ∧ 1000 < b) :
    Calls Try.prog 3 #[.agg #[.int .i64 m, .int .i64 t], .int .i64 p, .int .i64 b, tv] w fun e w' => e = .returned (.bool true) ∧ Bel w w' := by
  rcases h with h1 | ⟨h1, h2⟩ | ⟨h1, h2, h3⟩ | ⟨h1, h2, h3, h4⟩
  all_goals
    go_enter Try.func3, Try.ntmps3
    go_wp2_with (go_at_call 7; refine (small_any _).mono ?_; rintro e w1 ⟨rfl, hb1⟩; have xc00 : w1.cell? ⟨w.heap.size, 0, none⟩ = some (.int .i64 m) := bget hb1 (by go_size) (by go_cell); have xf00 : w1.frozen? ⟨w.heap.size, 0, none⟩ = false := bfrz hb1 (by go_size) (by first | (with_reducible assumption) | (go_simp; done) | (simp [*]; done)); have xc01 : w1.cell? ⟨w.heap.size, 1, none⟩ = some (.int .i64 t) := bget hb1 (by go_size) (by go_cell); have xf01 : w1.frozen? ⟨w.heap.size, 1, none⟩ = false := bfrz hb1 (by go_size) (by first | (with_reducible assumption) | (go_simp; done) | (simp [*]; done)); have xz0 : w.heap.size < w1.heap.size := bsize hb1 (by go_size))
    go_ret
    refine ⟨rfl, ?_⟩
    repeat (first | with_reducible exact Below.refl _ _ | with_reducible assumption | (with_reducible refine balloc ?_) | (with_reducible refine bdrew ?_) | (with_reducible refine bset ?_ (by first | omega | (simp; done) | (simp; omega))) | (with_reducible refine bnext ?_ (by assumption)))
theorem asc_getD {l : List Int} (h : Times l) (i j : Nat) (hij : i ≤ j) (hj : j < l.length) : l.getD i 0 ≤ l.getD j 0 := by
  rw [List.getD_eq_getElem?_getD, List.getElem?_eq_getElem (by omega), List.getD_eq_getElem?_getD, List.getElem?_eq_getElem hj, Option.getD_some, Option.getD_some]
  rcases Nat.lt_or_ge i j with h1 | h1
  · exact List.pairwise_iff_getElem.1 h.1 i j (by omega) hj h1
  · obtain rfl : i = j := by omega
    exact Int.le_refl _
set_option maxHeartbeats 4000000 in
theorem window_late (m t p b : Int) (tv : Value) (len : Nat) (zs : List Int) (w : World) (hz : zs.length = len) (hS : Sl w 1 tv len (cells64 zs)) (hlen : len ≤ 9223372036854775807) (h1 : 1 ≤ p) (h2 : p ≤ 1000) (h3 : 1 ≤ b) (h4 : b ≤ 1000) :
    Calls Try.prog 3 #[.agg #[.int .i64 m, .int .i64 t], .int .i64 p, .int .i64 b, tv] w fun e w' => e = .returned (.bool true) ∧ Bel w w' := by
  obtain ⟨i0, hi, hz0, hz1, hz2⟩ := info_parts info3
  go_enter Try.func3, Try.ntmps3
  go_wp2_with (go_at_call 7; refine (small_any _).mono ?_; rintro e w1 ⟨rfl, hb1⟩; have xc00 : w1.cell? ⟨w.heap.size, 0, none⟩ = some (.int .i64 m) := bget hb1 (by go_size) (by go_cell); have xf00 : w1.frozen? ⟨w.heap.size, 0, none⟩ = false := bfrz hb1 (by go_size) (by first | (with_reducible assumption) | (go_simp; done) | (simp [*]; done)); have xc01 : w1.cell? ⟨w.heap.size, 1, none⟩ = some (.int .i64 t) := bget hb1 (by go_size) (by go_cell); have xf01 : w1.frozen? ⟨w.heap.size, 1, none⟩ = false := bfrz hb1 (by go_size) (by first | (with_reducible assumption) | (go_simp; done) | (simp [*]; done)); have xz0 : w.heap.size < w1.heap.size := bsize hb1 (by go_size))
  refine (sorted_any tv len zs _ hz (hS.below ?_) hlen).mono ?_
  · repeat (first | with_reducible exact Below.refl _ _ | with_reducible assumption | (with_reducible refine balloc ?_) | (with_reducible refine bdrew ?_) | (with_reducible refine bset ?_ (by first | omega | (simp; done) | (simp; omega))) | (with_reducible refine bnext ?_ (by assumption)))
  rintro e w2 ⟨v, l, rfl, hT, hl40, hown, hb2⟩
  have yc00 : w2.cell? ⟨w.heap.size, 0, none⟩ = some (.int .i64 m) := bget hb2 (by go_size) (by go_cell)
  have yf00 : w2.frozen? ⟨w.heap.size, 0, none⟩ = false := bfrz hb2 (by go_size) (by first | (with_reducible assumption) | (go_simp; done) | (simp [*]; done))
  have yc01 : w2.cell? ⟨w.heap.size, 1, none⟩ = some (.int .i64 t) := bget hb2 (by go_size) (by go_cell)
  have yf01 : w2.frozen? ⟨w.heap.size, 1, none⟩ = false := bfrz hb2 (by go_size) (by first | (with_reducible assumption) | (go_simp; done) | (simp [*]; done))
  have yz0 : w.heap.size < w2.heap.size := bsize hb2 (by go_size)
  have hB2 : Below w.heap.size w w2 := by
    repeat (first | with_reducible exact Below.refl _ _ | with_reducible assumption | (with_reducible refine balloc ?_) | (with_reducible refine bdrew ?_) | (with_reducible refine bset ?_ (by first | omega | (simp; done) | (simp; omega))) | (with_reducible refine bnext ?_ (by assumption)))
  have hw1 : w.heap.size < w1.heap.size := xz0
  clear xc00 xc01 xf00 xf01
  rcases own_cases hown with ⟨rfl, hl0⟩ | ⟨gl, cl, rfl, hlc, hcm, hg1, hg2⟩
  · go_wp2_with fail
    go_loopw [11, 12] (fun v i wr => v = .slice none 0 0 ∧ i = .int .i64 (0 : Nat) ∧ Below w.heap.size w wr) (fun _ _ _ => 0)
    case atStart => exact ⟨rfl, rfl, hB2⟩
    case round =>
      obtain ⟨rfl, rfl, rB⟩ := hrel
      go_wp2_with fail
      go_loopw [15] (fun a wr => a = .int .i64 (0 : Nat) ∧ Below w.heap.size w wr) (fun a _ => 0)
      case atStart => exact ⟨rfl, rB⟩
      case round =>
        obtain ⟨rfl, rB⟩ := hrel
        go_wp2_with fail
        go_ret
        exact ⟨rfl, rB⟩
  · go_wp2_with fail
    go_loopw [11, 12] (fun a i wr => ∃ (k : Nat) (al : List Int) (M T u : Int), k ≤ l.length ∧ i = .int .i64 k ∧ al.length ≤ k ∧ Hid (WInv p b M T u al) ∧ Hid (∀ j, k ≤ j → j < l.length → u ≤ l.getD j 0) ∧
        wr.cell? ⟨w.heap.size, 0, none⟩ = some (.int .i64 M) ∧ wr.cell? ⟨w.heap.size, 1, none⟩ = some (.int .i64 T) ∧ wr.frozen? ⟨w.heap.size, 0, none⟩ = false ∧ wr.frozen? ⟨w.heap.size, 1, none⟩ = false ∧
        wr.ownsRow w2.heap.size 3 1 a al.length (cells64 al) ∧ wr.ownsRow w1.heap.size 3 1 (.slice (some ⟨gl, 0, none⟩) l.length cl) l.length (cells64 l) ∧ Below w.heap.size w wr ∧ w2.heap.size ≤ wr.heap.size)
      (fun _ i _ => l.length - (intOf i).toNat)
    case atStart => exact ⟨0, [], m, t, 0, Nat.zero_le _, rfl, Nat.le_refl _, winv_nil _ _ _ _, fun j _ hj => (hT.2 _ (by rw [List.getD_eq_getElem?_getD, List.getElem?_eq_getElem hj]; simp)).1, yc00, yc01, yf00, yf01, World.ownsRow_nil _ _ _ _, hown, hB2, Nat.le_refl _⟩
    case round =>
      obtain ⟨k, al, M, T, u, hk, rfl, hak, hI, hu, rc0, rc1, rf0, rf1, ro, rl, rB, rz⟩ := hrel
      clear yc00 yc01 yf00 yf01 hown hb2 hb1
      have rzw : w.heap.size < wr.heap.size := by omega
      by_cases hkl : k < l.length
      · obtain ⟨x, hx⟩ : ∃ x, l.getD k 0 = x := ⟨_, rfl⟩
        have hck : wr.cell? ⟨gl, k, none⟩ = some (.int .i64 x) := by
          obtain ⟨b', o', c', hv', _, _, hbs, hc'⟩ := (Sl.of_own rl).at (by omega)
          obtain ⟨hv1, _, _⟩ := Value.slice.inj hv'
          injection hv1 with hv1; injection hv1 with e1 e2; subst e1 e2
          have := hc' k _ (cells64_get l k hkl)
          rw [hx] at this; simpa using this
        have hux : u ≤ x := by rw [← hx]; exact hu.out k (Nat.le_refl _) hkl
        have hxb : 0 ≤ x ∧ x ≤ 70368744177664 := by rw [← hx]; exact hT.2 _ (by rw [List.getD_eq_getElem?_getD, List.getElem?_eq_getElem hkl]; simp)
        have hglr : gl < wr.heap.size := by omega
        replace hx := Lib.hid hx
        have hno := winv_no p b M T u x al h1 (by omega) h3 (by omega) hI.out hux hxb.2
        have hyes := winv_yes p b M T u x al h1 (by omega) h3 (by omega) hI.out hux hxb.2
        obtain ⟨M2, hM2⟩ : ∃ q, (if lev M T p b x < 3600000 then lev M T p b x else lev M T p b x - 3600000) = q := ⟨_, rfl⟩
        obtain ⟨T2, hT2⟩ : ∃ q, max (clT T) (clT x) = q := ⟨_, rfl⟩
        obtain ⟨ok, hok⟩ : ∃ q, decide (3600000 ≤ lev M T p b x) = q := ⟨_, rfl⟩
        have hp0 : 0 < p := by omega
        have hb0 : 0 < b := by omega
        replace hM2 := Lib.hid hM2
        replace hT2 := Lib.hid hT2
        replace hok := Lib.hid hok
        replace hno := Lib.hid hno
        replace hyes := Lib.hid hyes
        go_wp2_with fail
        go_region_held3 (fun w' => w'.cell? ⟨w.heap.size, 0, none⟩ = some (.int .i64 M) ∧ w'.cell? ⟨w.heap.size, 1, none⟩ = some (.int .i64 T) ∧ w'.cell? ⟨gl, k, none⟩ = some (.int .i64 x))
          (first | (refine ⟨?_, ?_, ?_⟩ <;> go_cell) | go_keep)
          (first
            | (go_at_call 9; (with_reducible refine (Allow_at M T p b x M2 T2 ok ((wr.alloc (Obj.cells #[Value.int IntKind.i64 0, Value.int IntKind.i64 0] 23)).drew) hp0 hb0 hM2.out hT2.out hok.out).mono ?_); rintro e w3 ⟨rfl, hb3⟩; have q0 : w3.cell? ⟨w.heap.size, 0, none⟩ = some (.int .i64 M) := bget hb3 (by go_size) (by go_cell); have q1 : w3.cell? ⟨w.heap.size, 1, none⟩ = some (.int .i64 T) := bget hb3 (by go_size) (by go_cell); have q2 : w3.cell? ⟨gl, k, none⟩ = some (.int .i64 x) := bget hb3 (by go_size) (by go_cell); have q3 := hb3.size; have q4 : wr.heap.size ≤ w3.heap.size := (by first | (simp at q3; omega) | omega); have q4' : w.heap.size < w3.heap.size := (by omega); have q8 : w3.frozen? ⟨w.heap.size, 0, none⟩ = false := bfrz hb3 (by go_size) (by first | (with_reducible assumption) | (go_simp; done) | (simp [*]; done)); have q9 : w3.frozen? ⟨w.heap.size, 1, none⟩ = false := bfrz hb3 (by go_size) (by first | (with_reducible assumption) | (go_simp; done) | (simp [*]; done)); have q7 : wr.heap.size < w3.heap.size := bsize hb3 (by go_size); have q5 : w3.cell? ⟨wr.heap.size, 0, none⟩ = some (.int .i64 0) := bget hb3 (by go_size) (by go_cell); have q6 : w3.cell? ⟨wr.heap.size, 1, none⟩ = some (.int .i64 0) := bget hb3 (by go_size) (by go_cell); have q5' : w3.frozen? ⟨wr.heap.size, 0, none⟩ = false := bfrz hb3 (by go_size) (by first | (with_reducible assumption) | (go_simp; done) | (simp [*]; done)); have q6' : w3.frozen? ⟨wr.heap.size, 1, none⟩ = false := bfrz hb3 (by go_size) (by first | (with_reducible assumption) | (go_simp; done) | (simp [*]; done)))
            | (go_at_call 9; refine (Allow_at M T p b x M2 T2 ok _ hp0 hb0 hM2.out hT2.out hok.out).mono ?_; rintro e w3 ⟨rfl, hb3⟩; have q0 : w3.cell? ⟨w.heap.size, 0, none⟩ = some (.int .i64 M) := bget hb3 (by go_size) (by go_cell); have q1 : w3.cell? ⟨w.heap.size, 1, none⟩ = some (.int .i64 T) := bget hb3 (by go_size) (by go_cell); have q2 : w3.cell? ⟨gl, k, none⟩ = some (.int .i64 x) := bget hb3 (by go_size) (by go_cell); have q3 := hb3.size; have q4 : wr.heap.size ≤ w3.heap.size := (by first | (simp at q3; omega) | omega); have q4' : w.heap.size < w3.heap.size := (by omega); have q8 : w3.frozen? ⟨w.heap.size, 0, none⟩ = false := bfrz hb3 (by go_size) (by first | (with_reducible assumption) | (go_simp; done) | (simp [*]; done)); have q9 : w3.frozen? ⟨w.heap.size, 1, none⟩ = false := bfrz hb3 (by go_size) (by first | (with_reducible assumption) | (go_simp; done) | (simp [*]; done))))
        all_goals cases ok
        · have hbw : Below wr.heap.size wr w3 := by
            repeat (first | with_reducible exact Below.refl _ _ | with_reducible assumption | (with_reducible refine balloc ?_) | (with_reducible refine bdrew ?_) | (with_reducible refine bset ?_ (by first | omega | (simp; done) | (simp; omega))) | (with_reducible refine bnext ?_ (by assumption)))
          have so := (own_set (a := ⟨w.heap.size, 1, none⟩) (own_set (a := ⟨w.heap.size, 0, none⟩) (own_bel ro hbw) (.int .i64 M2) (own_ne ro (.inl (by omega)))) (.int .i64 T2) (own_ne ro (.inl (by omega)))).alloc (Obj.cells #[Value.int IntKind.i64 M2, Value.int IntKind.i64 T2] 23)
          have sl := (own_set (a := ⟨w.heap.size, 1, none⟩) (own_set (a := ⟨w.heap.size, 0, none⟩) (own_bel rl hbw) (.int .i64 M2) (own_ne rl (.inl (by omega)))) (.int .i64 T2) (own_ne rl (.inl (by omega)))).alloc (Obj.cells #[Value.int IntKind.i64 M2, Value.int IntKind.i64 T2] 23)
          go_wp2_with fail
          go_roundw
          case rel =>
            have hlt : lev M T p b x < 3600000 := by have := hok.out; simp at this; exact this
            have e1 : M2 = lev M T p b x := by rw [← hM2.out, if_pos hlt]
            refine ⟨k + 1, al, M2, T2, x, by omega, by go_num, by omega, ?_, ?_, by go_cell, by go_cell, by (first | (with_reducible assumption) | (go_simp; done) | (simp [*]; done)), by (first | (with_reducible assumption) | (go_simp; done) | (simp [*]; done)), so, sl, ?_, ?_⟩
            · rw [e1, ← hT2.out]; exact hno.out
            · intro j h5 h6; rw [← hx.out]; exact asc_getD hT k j (by omega) h6
            · have hbw2 := hbw.mono (B' := w.heap.size) (by omega)
              have hbw3 := rB.trans hbw2
              repeat (first | with_reducible exact Below.refl _ _ | with_reducible assumption | (with_reducible refine balloc ?_) | (with_reducible refine bdrew ?_) | (with_reducible refine bset ?_ (by first | omega | (simp; done) | (simp; omega))) | (with_reducible refine bnext ?_ (by assumption)))
            · go_size
          case measure => simp [intOf]; omega
        · have hbw : Below wr.heap.size wr w3 := by
            repeat (first | with_reducible exact Below.refl _ _ | with_reducible assumption | (with_reducible refine balloc ?_) | (with_reducible refine bdrew ?_) | (with_reducible refine bset ?_ (by first | omega | (simp; done) | (simp; omega))) | (with_reducible refine bnext ?_ (by assumption)))
          have so := (own_set (a := ⟨w.heap.size, 1, none⟩) (own_set (a := ⟨w.heap.size, 0, none⟩) (own_bel ro hbw) (.int .i64 M2) (own_ne ro (.inl (by omega)))) (.int .i64 T2) (own_ne ro (.inl (by omega)))).alloc (Obj.cells #[Value.int IntKind.i64 M2, Value.int IntKind.i64 T2] 23)
          have sl := (own_set (a := ⟨w.heap.size, 1, none⟩) (own_set (a := ⟨w.heap.size, 0, none⟩) (own_bel rl hbw) (.int .i64 M2) (own_ne rl (.inl (by omega)))) (.int .i64 T2) (own_ne rl (.inl (by omega)))).alloc (Obj.cells #[Value.int IntKind.i64 M2, Value.int IntKind.i64 T2] 23)
          go_upto_region 12 with (fail)
          refine wp_named fun W hW => ?_
          rw [hW] at so sl
          have c0 : W.cell? ⟨w.heap.size, 0, none⟩ = some (.int .i64 M2) := by rw [← hW]; clear hW so sl; go_cell
          have c1 : W.cell? ⟨w.heap.size, 1, none⟩ = some (.int .i64 T2) := by rw [← hW]; clear hW so sl; go_cell
          have hgl3 : gl < w3.heap.size := by omega
          have hgne : gl ≠ w.heap.size := by omega
          have c2 : W.cell? ⟨gl, k, none⟩ = some (.int .i64 x) := by rw [← hW]; clear hW so sl; go_cell
          have f0 : W.frozen? ⟨w.heap.size, 0, none⟩ = false := by rw [← hW]; clear hW so sl; (first | (with_reducible assumption) | (go_simp; done) | (simp [*]; done))
          have f1 : W.frozen? ⟨w.heap.size, 1, none⟩ = false := by rw [← hW]; clear hW so sl; (first | (with_reducible assumption) | (go_simp; done) | (simp [*]; done))
          have hWz : wr.heap.size ≤ W.heap.size := by rw [← hW]; clear hW so sl; go_size
          have hWB : Below w.heap.size w W := by
            rw [← hW]; clear hW so sl
            have hbw2 := hbw.mono (B' := w.heap.size) (by omega)
            have hbw3 := rB.trans hbw2
            repeat (first | with_reducible exact Below.refl _ _ | with_reducible assumption | (with_reducible refine balloc ?_) | (with_reducible refine bdrew ?_) | (with_reducible refine bset ?_ (by first | omega | (simp; done) | (simp; omega))) | (with_reducible refine bnext ?_ (by assumption)))
          clear hW
          go_wp2_with (((with_reducible show wpList _ _ _ (⟨some 61, _, _, _, _, _⟩ :: _) _ _); refine wpList_append_src (o := ⟨some 61, _, _, _, _, _⟩) rfl (.tmp 55) (.tmp 60) 24 24 rfl w2.heap.size 3 i0 (.int .i64 0) 1 8 Try.underlying24 hi hz0 hz1 hz2 rfl (by decide) (u11) (al.length) (cells64 al) rfl (so.alloc _) (.slice (some ⟨W.heap.size, 0, none⟩) 1 1) rfl (1) ([.int .i64 x]) (Src.ofSlice _ Try.underlying24 ⟨W.heap.size, 0, none⟩ 1 1 [.int .i64 x] rfl (cell_one_new _ _ _) (by simp [Value.oneCell'])) (by unfold maxLen; omega) (by omega) (by simp; omega) ?_; intro v4 w4 own4 gr4 _ _; have hB4 : Below w.heap.size w w4 := below_row (hWB.alloc hWB.size _) (so.alloc _) (by omega) (by go_size) gr4; have hl4 := own_other (sl.alloc _) gr4 (.inr (fun e => by have h9 := (sl.alloc (Obj.cells #[Value.int IntKind.i64 x] 3)).lt gl rfl; have h8 := (so.alloc (Obj.cells #[Value.int IntKind.i64 x] 3)).lt gl e.symm; omega)); have b4 : Below w2.heap.size W w4 := ((Below.refl _ _).alloc (by omega) _).trans (below_grown (so.alloc _) (by go_size) gr4); have d0 := (b4.cell (p := ⟨w.heap.size, 0, none⟩) (by simp; omega)).trans c0; have d1 := (b4.cell (p := ⟨w.heap.size, 1, none⟩) (by simp; omega)).trans c1; have e0 := (b4.frozen (p := ⟨w.heap.size, 0, none⟩) (by simp; omega)).trans f0; have e1 := (b4.frozen (p := ⟨w.heap.size, 1, none⟩) (by simp; omega)).trans f1; have hz4 := b4.size; clear gr4 c0 c1 c2 f0 f1))
          go_roundw
          case rel =>
            have hge : 3600000 ≤ lev M T p b x := by have := hok.out; simp at this; exact this
            have e2 : M2 = lev M T p b x - 3600000 := by rw [← hM2.out, if_neg (by omega)]
            refine ⟨k + 1, al ++ [x], M2, T2, x, by omega, by go_num, by simp; omega, ?_, ?_, d0, d1, e0, e1, ?_, hl4, hB4, by omega⟩
            · rw [e2, ← hT2.out]; exact hyes.out hge
            · intro j h5 h6; rw [← hx.out]; exact asc_getD hT k j (by omega) h6
            · rw [List.length_append, List.length_singleton, ← cells64_append]; exact own4
          case measure => simp [intOf]; omega
        · have hbw : Below wr.heap.size wr w3 := by
            repeat (first | with_reducible exact Below.refl _ _ | with_reducible assumption | (with_reducible refine balloc ?_) | (with_reducible refine bdrew ?_) | (with_reducible refine bset ?_ (by first | omega | (simp; done) | (simp; omega))) | (with_reducible refine bnext ?_ (by assumption)))
          have so := own_set (a := ⟨w.heap.size, 1, none⟩) (own_set (a := ⟨w.heap.size, 0, none⟩) (own_set (a := ⟨wr.heap.size, 1, none⟩) (own_set (a := ⟨wr.heap.size, 0, none⟩) (own_bel ro hbw) (.int .i64 M2) (own_ne ro (.inr (Nat.le_refl _)))) (.int .i64 T2) (own_ne ro (.inr (Nat.le_refl _)))) (.int .i64 M2) (own_ne ro (.inl (by omega)))) (.int .i64 T2) (own_ne ro (.inl (by omega)))
          have sl := own_set (a := ⟨w.heap.size, 1, none⟩) (own_set (a := ⟨w.heap.size, 0, none⟩) (own_set (a := ⟨wr.heap.size, 1, none⟩) (own_set (a := ⟨wr.heap.size, 0, none⟩) (own_bel rl hbw) (.int .i64 M2) (own_ne rl (.inr (Nat.le_refl _)))) (.int .i64 T2) (own_ne rl (.inr (Nat.le_refl _)))) (.int .i64 M2) (own_ne rl (.inl (by omega)))) (.int .i64 T2) (own_ne rl (.inl (by omega)))
          go_wp2_with fail
          go_roundw
          case rel =>
            have hlt : lev M T p b x < 3600000 := by have := hok.out; simp at this; exact this
            have e1 : M2 = lev M T p b x := by rw [← hM2.out, if_pos hlt]
            refine ⟨k + 1, al, M2, T2, x, by omega, by go_num, by omega, ?_, ?_, by go_cell, by go_cell, by (first | (with_reducible assumption) | (go_simp; done) | (simp [*]; done)), by (first | (with_reducible assumption) | (go_simp; done) | (simp [*]; done)), so, sl, ?_, ?_⟩
            · rw [e1, ← hT2.out]; exact hno.out
            · intro j h5 h6; rw [← hx.out]; exact asc_getD hT k j (by omega) h6
            · have hbw2 := hbw.mono (B' := w.heap.size) (by omega)
              have hbw3 := rB.trans hbw2
              repeat (first | with_reducible exact Below.refl _ _ | with_reducible assumption | (with_reducible refine balloc ?_) | (with_reducible refine bdrew ?_) | (with_reducible refine bset ?_ (by first | omega | (simp; done) | (simp; omega))) | (with_reducible refine bnext ?_ (by assumption)))
            · go_size
          case measure => simp [intOf]; omega
        · have hbw : Below wr.heap.size wr w3 := by
            repeat (first | with_reducible exact Below.refl _ _ | with_reducible assumption | (with_reducible refine balloc ?_) | (with_reducible refine bdrew ?_) | (with_reducible refine bset ?_ (by first | omega | (simp; done) | (simp; omega))) | (with_reducible refine bnext ?_ (by assumption)))
          have so := own_set (a := ⟨w.heap.size, 1, none⟩) (own_set (a := ⟨w.heap.size, 0, none⟩) (own_set (a := ⟨wr.heap.size, 1, none⟩) (own_set (a := ⟨wr.heap.size, 0, none⟩) (own_bel ro hbw) (.int .i64 M2) (own_ne ro (.inr (Nat.le_refl _)))) (.int .i64 T2) (own_ne ro (.inr (Nat.le_refl _)))) (.int .i64 M2) (own_ne ro (.inl (by omega)))) (.int .i64 T2) (own_ne ro (.inl (by omega)))
          have sl := own_set (a := ⟨w.heap.size, 1, none⟩) (own_set (a := ⟨w.heap.size, 0, none⟩) (own_set (a := ⟨wr.heap.size, 1, none⟩) (own_set (a := ⟨wr.heap.size, 0, none⟩) (own_bel rl hbw) (.int .i64 M2) (own_ne rl (.inr (Nat.le_refl _)))) (.int .i64 T2) (own_ne rl (.inr (Nat.le_refl _)))) (.int .i64 M2) (own_ne rl (.inl (by omega)))) (.int .i64 T2) (own_ne rl (.inl (by omega)))
          go_upto_region 12 with (fail)
          refine wp_named fun W hW => ?_
          rw [hW] at so sl
          have c0 : W.cell? ⟨w.heap.size, 0, none⟩ = some (.int .i64 M2) := by rw [← hW]; clear hW so sl; go_cell
          have c1 : W.cell? ⟨w.heap.size, 1, none⟩ = some (.int .i64 T2) := by rw [← hW]; clear hW so sl; go_cell
          have hgl3 : gl < w3.heap.size := by omega
          have hgne : gl ≠ w.heap.size := by omega
          have c2 : W.cell? ⟨gl, k, none⟩ = some (.int .i64 x) := by rw [← hW]; clear hW so sl; go_cell
          have f0 : W.frozen? ⟨w.heap.size, 0, none⟩ = false := by rw [← hW]; clear hW so sl; (first | (with_reducible assumption) | (go_simp; done) | (simp [*]; done))
          have f1 : W.frozen? ⟨w.heap.size, 1, none⟩ = false := by rw [← hW]; clear hW so sl; (first | (with_reducible assumption) | (go_simp; done) | (simp [*]; done))
          have hWz : wr.heap.size ≤ W.heap.size := by rw [← hW]; clear hW so sl; go_size
          have hWB : Below w.heap.size w W := by
            rw [← hW]; clear hW so sl
            have hbw2 := hbw.mono (B' := w.heap.size) (by omega)
            have hbw3 := rB.trans hbw2
            repeat (first | with_reducible exact Below.refl _ _ | with_reducible assumption | (with_reducible refine balloc ?_) | (with_reducible refine bdrew ?_) | (with_reducible refine bset ?_ (by first | omega | (simp; done) | (simp; omega))) | (with_reducible refine bnext ?_ (by assumption)))
          clear hW
          go_wp2_with (((with_reducible show wpList _ _ _ (⟨some 61, _, _, _, _, _⟩ :: _) _ _); refine wpList_append_src (o := ⟨some 61, _, _, _, _, _⟩) rfl (.tmp 55) (.tmp 60) 24 24 rfl w2.heap.size 3 i0 (.int .i64 0) 1 8 Try.underlying24 hi hz0 hz1 hz2 rfl (by decide) (u11) (al.length) (cells64 al) rfl (so.alloc _) (.slice (some ⟨W.heap.size, 0, none⟩) 1 1) rfl (1) ([.int .i64 x]) (Src.ofSlice _ Try.underlying24 ⟨W.heap.size, 0, none⟩ 1 1 [.int .i64 x] rfl (cell_one_new _ _ _) (by simp [Value.oneCell'])) (by unfold maxLen; omega) (by omega) (by simp; omega) ?_; intro v4 w4 own4 gr4 _ _; have hB4 : Below w.heap.size w w4 := below_row (hWB.alloc hWB.size _) (so.alloc _) (by omega) (by go_size) gr4; have hl4 := own_other (sl.alloc _) gr4 (.inr (fun e => by have h9 := (sl.alloc (Obj.cells #[Value.int IntKind.i64 x] 3)).lt gl rfl; have h8 := (so.alloc (Obj.cells #[Value.int IntKind.i64 x] 3)).lt gl e.symm; omega)); have b4 : Below w2.heap.size W w4 := ((Below.refl _ _).alloc (by omega) _).trans (below_grown (so.alloc _) (by go_size) gr4); have d0 := (b4.cell (p := ⟨w.heap.size, 0, none⟩) (by simp; omega)).trans c0; have d1 := (b4.cell (p := ⟨w.heap.size, 1, none⟩) (by simp; omega)).trans c1; have e0 := (b4.frozen (p := ⟨w.heap.size, 0, none⟩) (by simp; omega)).trans f0; have e1 := (b4.frozen (p := ⟨w.heap.size, 1, none⟩) (by simp; omega)).trans f1; have hz4 := b4.size; clear gr4 c0 c1 c2 f0 f1))
          go_roundw
          case rel =>
            have hge : 3600000 ≤ lev M T p b x := by have := hok.out; simp at this; exact this
            have e2 : M2 = lev M T p b x - 3600000 := by rw [← hM2.out, if_neg (by omega)]
            refine ⟨k + 1, al ++ [x], M2, T2, x, by omega, by go_num, by simp; omega, ?_, ?_, d0, d1, e0, e1, ?_, hl4, hB4, by omega⟩
            · rw [e2, ← hT2.out]; exact hyes.out hge
            · intro j h5 h6; rw [← hx.out]; exact asc_getD hT k j (by omega) h6
            · rw [List.length_append, List.length_singleton, ← cells64_append]; exact own4
          case measure => simp [intOf]; omega
      · have hkn : k = l.length := by omega
        rcases own_cases ro with ⟨rfl, hn0⟩ | ⟨ga, ca, rfl, hac, hacm, hga1, hga2⟩
        · obtain rfl : al = [] := List.eq_nil_of_length_eq_zero hn0
          go_wp2_with fail
          go_loop [15] (fun a => a = .int .i64 (0 : Nat)) (fun a => 0)
          case atStart => rfl
          case round =>
            subst hrel
            go_wp2_with fail
            go_ret
            refine ⟨rfl, ?_⟩
            repeat (first | with_reducible exact Below.refl _ _ | with_reducible assumption | (with_reducible refine balloc ?_) | (with_reducible refine bdrew ?_) | (with_reducible refine bset ?_ (by first | omega | (simp; done) | (simp; omega))) | (with_reducible refine bnext ?_ (by assumption)))
        · have hcells : Hid (∀ j, j < al.length → wr.cell? ⟨ga, j, none⟩ = some (.int .i64 (al.getD j 0))) := fun j hj => by
            obtain ⟨b', o', c', hv', _, _, _, hc'⟩ := (Sl.of_own ro).at (by omega)
            obtain ⟨hv1, _, _⟩ := Value.slice.inj hv'
            injection hv1 with hv1; injection hv1 with e1 e2; subst e1 e2
            have := hc' j _ (cells64_get al j hj)
            simpa using this
          have hn40 : al.length ≤ 40 := by omega
          clear ro rl rc0 rc1 rf0 rf1
          go_wp2_with fail
          go_loopw [15] (fun a wq => ∃ i : Nat, i ≤ al.length ∧ a = .int .i64 i ∧ Hid (∀ j, j < al.length → wq.cell? ⟨ga, j, none⟩ = some (.int .i64 (al.getD j 0))) ∧ Below w.heap.size w wq) (fun a _ => al.length - (intOf a).toNat)
          case atStart => exact ⟨0, Nat.zero_le _, rfl, hcells, rB⟩
          case round =>
            clear hcells rB
            obtain ⟨i, hin, rfl, hcells, hB⟩ := hrel
            have hI2 := hI.out
            by_cases hil : i < al.length
            · have hci := hcells.out i hil
              have hai := hI2.2.2.1 i hil
              obtain ⟨ai, eai⟩ : ∃ ai, al.getD i 0 = ai := ⟨_, rfl⟩
              rw [eai] at hci hai
              replace eai := Lib.hid eai
              obtain ⟨W1, hW1⟩ : ∃ W : World, W = wr := ⟨_, rfl⟩
              subst hW1
              go_wp2_with fail
              go_loopw [16] (fun a wq => ∃ j : Nat, i ≤ j ∧ j ≤ al.length ∧ a = .int .i64 j ∧ wq.cell? ⟨ga, i, none⟩ = some (.int .i64 ai) ∧ Hid (∀ j, j < al.length → wq.cell? ⟨ga, j, none⟩ = some (.int .i64 (al.getD j 0))) ∧ Below w.heap.size w wq) (fun a _ => al.length - (intOf a).toNat)
              case atStart => exact ⟨i, Nat.le_refl _, hin, rfl, hci, hcells, hB⟩
              case round =>
                clear hcells hB hci
                obtain ⟨j, hij, hjn, rfl, hci, hcells, hB⟩ := hrel
                by_cases hjl : j < al.length
                · have hcj := hcells.out j hjl
                  have haj := hI2.2.2.1 j hjl
                  have hpair := hI2.2.2.2 i j hij hjl
                  obtain ⟨aj, eaj⟩ : ∃ aj, al.getD j 0 = aj := ⟨_, rfl⟩
                  rw [eaj] at hcj haj hpair
                  rw [eai.out] at hpair
                  replace eaj := Lib.hid eaj
                  have hu2 : u ≤ 70368744177664 := by have := hI2.2.1; have := clT_bd T; omega
                  have hd0 : 0 ≤ aj - ai := by omega
                  have hd1 : aj - ai ≤ 70368744177664 := by omega
                  have hwb := window_bound p b (aj - ai) ((j : Int) - (i : Int) + 1) h1 hd0 hpair.1
                  have hq0 : 0 ≤ p * ((aj - ai) / 3600000) := Int.mul_nonneg (by omega) (by omega)
                  have hq1 : p * ((aj - ai) / 3600000) ≤ 1000 * 19546873 := Int.mul_le_mul (by omega) (by omega) (by omega) (by omega)
                  have hr0 : 0 ≤ p * ((aj - ai) % 3600000) := Int.mul_nonneg (by omega) (by omega)
                  have hr1 : p * ((aj - ai) % 3600000) ≤ 1000 * 3600000 := Int.mul_le_mul (by omega) (by omega) (by omega) (by omega)
                  have hj0 : (0 : Int) ≤ (j : Int) := Int.natCast_nonneg _
                  have hj1 : (j : Int) < (al.length : Int) := by omega
                  have hi0' : (0 : Int) ≤ (i : Int) := Int.natCast_nonneg _
                  have hi1' : (i : Int) < (al.length : Int) := by omega
                  clear hpair hai haj
                  go_wp2_with fail
                  go_quiet (fail)
                  go_wp2_with fail
                  go_roundw
                  case rel => exact ⟨j + 1, by omega, by omega, by go_num, by simpa using hci, fun q hq => by simpa using hcells.out q hq, ⟨hB.os, hB.tape, hB.output, hB.size, hB.block⟩⟩
                  case measure => simp [intOf]; omega
                · go_wp2_with fail
                  go_roundw
                  case rel => exact ⟨i + 1, by omega, by go_num, hcells, hB⟩
                  case measure => simp [intOf]; omega
            · go_wp2_with fail
              go_ret
              refine ⟨rfl, ?_⟩
              repeat (first | with_reducible exact Below.refl _ _ | with_reducible assumption | (with_reducible refine balloc ?_) | (with_reducible refine bdrew ?_) | (with_reducible refine bset ?_ (by first | omega | (simp; done) | (simp; omega))) | (with_reducible refine bnext ?_ (by assumption)))
theorem window_walk (m t p b : Int) (a : Option Addr) (len cap : Nat) (zs : List Int) (w : World) (hr : IsRow .i64 w a len cap zs) :
    Calls Try.prog 3 #[.agg #[.int .i64 m, .int .i64 t], .int .i64 p, .int .i64 b, .slice a len cap] w fun e w' => e = .returned (.bool true) ∧ Bel w w' := by
  by_cases h : 1 ≤ p ∧ p ≤ 1000 ∧ 1 ≤ b ∧ b ≤ 1000
  · obtain ⟨h1, h2, h3, h4⟩ := h
    have hS := isRow_sl hr
    have hlen : (zs.take len).length = len := by have := hS.1; simp [cells64] at this ⊢; omega
    exact window_late m t p b _ len _ w hlen hS (by have := hS.le_max; unfold maxLen at this; omega) h1 h2 h3 h4
  · exact window_early m t p b _ w (by omega)
end Go.Proofs.Ytnbfmmnbjjeecaa

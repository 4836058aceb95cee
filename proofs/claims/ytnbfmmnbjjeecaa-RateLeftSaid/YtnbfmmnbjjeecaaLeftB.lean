/- RateLeft: the walk. -/
import Derived.Test.YtnbfmmnbjjeecaaLeftA
namespace Go.Proofs.Ytnbfmmnbjjeecaa
open Go.RowKit
set_option linter.unusedVariables false
/-- One message taken out of a bucket that has one. -/
theorem lev_take (M t p b now L : Int) (hp : 0 < p) (hb : 0 < b) (hb2 : b ≤ 1000000) (h : lev M t p b now = L) (h3 : 3600000 ≤ L) : lev (L - 3600000) now p b now = L - 3600000 := by
  have := lev_bd M t p b now hp hb
  have h2 : L ≤ b * 3600000 := by
    have := lvl_bd (cap p) (cap b) M (clT t) (clT now) (cap_bd p hp).1 (by have := cap_bd b hb; omega)
    unfold lev at h; rw [cap_id b hb2] at h; rw [cap_id b hb2] at this; omega
  exact lev_own _ p b now hp hb hb2 (by omega) (by omega)
set_option maxHeartbeats 1000000 in
theorem left_late (m t p b now later : Int) (w : World) (h1 : 1 ≤ p) (h2 : p ≤ 1000) (h3 : 1 ≤ b) (h4 : b ≤ 40) (h5 : 0 ≤ now) (h6 : now ≤ later) (h7 : later ≤ 70368744177664) (h8 : t ≤ now) :
    Calls Try.prog 5 #[.agg #[.int .i64 m, .int .i64 t], .int .i64 p, .int .i64 b, .int .i64 now, .int .i64 later] w fun e w' => e = .returned (.bool true) ∧ Bel w w' := by
  have hL := lev_bd m t p b now (by omega) (by omega)
  have hLb : lev m t p b now ≤ b * 3600000 := by
    have := lvl_bd (cap p) (cap b) m (clT t) (clT now) (cap_bd p (by omega)).1 (by have := cap_bd b (by omega); omega)
    unfold lev; rw [cap_id b (by omega)] at *; omega
  have hnow : clT now = now := clT_id now h5 (by omega)
  obtain ⟨L, e0⟩ : ∃ n, lev m t p b now = n := ⟨_, rfl⟩
  obtain ⟨n, en⟩ : ∃ n, lev m t p b now / 3600000 = n := ⟨_, rfl⟩
  have hn0 : 0 ≤ n := by omega
  have hnb : n ≤ b := by omega
  have hn1 : n * 3600000 ≤ L := by omega
  have hn2 : L < n * 3600000 + 3600000 := by omega
  rw [e0] at hL hLb
  replace e0 := Lib.hid e0
  replace en := Lib.hid en
  replace hnow := Lib.hid hnow
  go_enter Try.func5, Try.ntmps5
  go_wp2_with (go_at_call 7; refine (small_any _).mono ?_; rintro e w1 ⟨rfl, hb1⟩; have xc00 : w1.cell? ⟨w.heap.size, 0, none⟩ = some (.int .i64 m) := bget hb1 (by go_size) (by go_cell); have xf00 : w1.frozen? ⟨w.heap.size, 0, none⟩ = false := bfrz hb1 (by go_size) (by first | assumption | (go_simp; done) | (simp [*]; done)); have xc01 : w1.cell? ⟨w.heap.size, 1, none⟩ = some (.int .i64 t) := bget hb1 (by go_size) (by go_cell); have xf01 : w1.frozen? ⟨w.heap.size, 1, none⟩ = false := bfrz hb1 (by go_size) (by first | assumption | (go_simp; done) | (simp [*]; done)); have xz0 : w.heap.size < w1.heap.size := bsize hb1 (by go_size))
  refine (Left_at m t p b now n _ (by omega) (by omega) en.out).mono ?_
  rintro e w2 ⟨rfl, hb2⟩
  have yc00 : w2.cell? ⟨w.heap.size, 0, none⟩ = some (.int .i64 m) := bget hb2 (by go_size) (by go_cell)
  have yf00 : w2.frozen? ⟨w.heap.size, 0, none⟩ = false := bfrz hb2 (by go_size) (by first | assumption | (go_simp; done) | (simp [*]; done))
  have yc01 : w2.cell? ⟨w.heap.size, 1, none⟩ = some (.int .i64 t) := bget hb2 (by go_size) (by go_cell)
  have yf01 : w2.frozen? ⟨w.heap.size, 1, none⟩ = false := bfrz hb2 (by go_size) (by first | assumption | (go_simp; done) | (simp [*]; done))
  have yz0 : w.heap.size < w2.heap.size := bsize hb2 (by go_size)
  have hB2 : Below w.heap.size w w2 := by
    repeat (first | with_reducible exact Below.refl _ _ | with_reducible assumption | (with_reducible refine balloc ?_) | (with_reducible refine bdrew ?_) | (with_reducible refine bset ?_ (by first | omega | (simp; done) | (simp; omega))) | (with_reducible refine bnext ?_ (by assumption)))
  clear hb1 hb2 xc00 xc01 xf00 xf01 xz0
  go_wp2_with fail
  go_loopw [13] (fun i wr => ∃ k M T : Int, 0 ≤ k ∧ k ≤ n ∧ i = .int .i64 k ∧ wr.cell? ⟨w.heap.size, 0, none⟩ = some (.int .i64 M) ∧ wr.cell? ⟨w.heap.size, 1, none⟩ = some (.int .i64 T) ∧
      wr.frozen? ⟨w.heap.size, 0, none⟩ = false ∧ wr.frozen? ⟨w.heap.size, 1, none⟩ = false ∧ w.heap.size < wr.heap.size ∧ Below w.heap.size w wr ∧ T ≤ now ∧ lev M T p b now = L - k * 3600000) (fun i _ => (n - intOf i).toNat)
  case atStart => exact ⟨0, m, t, by omega, hn0, rfl, yc00, yc01, yf00, yf01, yz0, hB2, h8, by rw [e0.out]; omega⟩
  case round =>
    obtain ⟨k, M, T, hk0, hkn, rfl, rc0, rc1, rf0, rf1, rz, rB, hT, hlev⟩ := hrel
    clear yc00 yc01 yf00 yf01 yz0 hB2
    replace hlev := Lib.hid hlev
    have hmax : Hid (max (clT T) (clT now) = now) := Lib.hid (by rw [hnow.out]; unfold clT; omega)
    by_cases hkl : k < n
    · have hge : k * 3600000 + 3600000 ≤ n * 3600000 := by omega
      go_wp2_with fail
      refine (Allow_at M T p b now (L - k * 3600000 - 3600000) now true _ (by omega) (by omega) (by rw [hlev.out, if_neg (by omega)]) hmax.out (by rw [hlev.out]; simp; omega)).mono ?_
      rintro e w3 ⟨rfl, hb3⟩
      have zc00 : w3.cell? ⟨w.heap.size, 0, none⟩ = some (.int .i64 M) := bget hb3 (by go_size) (by go_cell)
      have zf00 : w3.frozen? ⟨w.heap.size, 0, none⟩ = false := bfrz hb3 (by go_size) (by first | assumption | (go_simp; done) | (simp [*]; done))
      have zc01 : w3.cell? ⟨w.heap.size, 1, none⟩ = some (.int .i64 T) := bget hb3 (by go_size) (by go_cell)
      have zf01 : w3.frozen? ⟨w.heap.size, 1, none⟩ = false := bfrz hb3 (by go_size) (by first | assumption | (go_simp; done) | (simp [*]; done))
      have zz0 : w.heap.size < w3.heap.size := bsize hb3 (by go_size)
      have hlev2 : Hid (lev (L - k * 3600000 - 3600000) now p b now = L - k * 3600000 - 3600000) := Lib.hid (lev_take M T p b now _ (by omega) (by omega) (by omega) hlev.out (by omega))
      go_wp2_with fail
      refine (Left_at (L - k * 3600000 - 3600000) now p b now (n - 1 - k) _ (by omega) (by omega) (by rw [hlev2.out]; omega)).mono ?_
      rintro e w4 ⟨rfl, hb4⟩
      have uc00 : w4.cell? ⟨w.heap.size, 0, none⟩ = some (.int .i64 M) := bget hb4 (by go_size) (by go_cell)
      have uf00 : w4.frozen? ⟨w.heap.size, 0, none⟩ = false := bfrz hb4 (by go_size) (by first | assumption | (go_simp; done) | (simp [*]; done))
      have uc01 : w4.cell? ⟨w.heap.size, 1, none⟩ = some (.int .i64 T) := bget hb4 (by go_size) (by go_cell)
      have uf01 : w4.frozen? ⟨w.heap.size, 1, none⟩ = false := bfrz hb4 (by go_size) (by first | assumption | (go_simp; done) | (simp [*]; done))
      have uz0 : w.heap.size < w4.heap.size := bsize hb4 (by go_size)
      have vc00 : w4.cell? ⟨w3.heap.size, 0, none⟩ = some (.int .i64 (L - k * 3600000 - 3600000)) := bget hb4 (by go_size) (by go_cell)
      have vf00 : w4.frozen? ⟨w3.heap.size, 0, none⟩ = false := bfrz hb4 (by go_size) (by first | assumption | (go_simp; done) | (simp [*]; done))
      have vc01 : w4.cell? ⟨w3.heap.size, 1, none⟩ = some (.int .i64 now) := bget hb4 (by go_size) (by go_cell)
      have vf01 : w4.frozen? ⟨w3.heap.size, 1, none⟩ = false := bfrz hb4 (by go_size) (by first | assumption | (go_simp; done) | (simp [*]; done))
      have vz0 : w3.heap.size < w4.heap.size := bsize hb4 (by go_size)
      have hB4 : Below w.heap.size w w4 := by
        repeat (first | with_reducible exact Below.refl _ _ | with_reducible assumption | (with_reducible refine balloc ?_) | (with_reducible refine bdrew ?_) | (with_reducible refine bset ?_ (by first | omega | (simp; done) | (simp; omega))) | (with_reducible refine bnext ?_ (by assumption)))
      clear hb3 hb4
      go_wp2_with fail
      go_roundw
      case rel =>
        refine ⟨k + 1, L - k * 3600000 - 3600000, now, by omega, by omega, by go_num, by go_cell, by go_cell, ?_, ?_, ?_, ?_, by omega, by rw [hlev2.out]; omega⟩
        · go_simp
        · go_simp
        · go_size
        · repeat (first | with_reducible exact Below.refl _ _ | with_reducible assumption | (with_reducible refine balloc ?_) | (with_reducible refine bdrew ?_) | (with_reducible refine bset ?_ (by first | omega | (simp; done) | (simp; omega))) | (with_reducible refine bnext ?_ (by assumption)))
      case measure => simp [intOf]; omega
    · have hkn : k = n := by omega
      have hlt : Hid (lev M T p b now = L - n * 3600000) := Lib.hid (by rw [← hkn]; exact hlev.out)
      obtain rfl : k = n := hkn
      have hl2 := lev_later M T p b now later (by omega) (by omega) (by omega) h5 h6 h7 hT (by rw [hlt.out]; omega)
      rw [hlt.out] at hl2
      obtain ⟨n9, e9⟩ : ∃ n9, lev M T p b later / 3600000 = n9 := ⟨_, rfl⟩
      have e8 : Hid (lev (L - k * 3600000) now p b later / 3600000 = n9) := Lib.hid (by rw [hl2]; exact e9)
      replace e9 := Lib.hid e9
      clear hl2
      go_wp2_with fail
      refine (Allow_at M T p b now (L - k * 3600000) now false _ (by omega) (by omega) (by rw [hlev.out, if_pos (by omega)]) hmax.out (by rw [hlev.out]; simp; omega)).mono ?_
      rintro e w3 ⟨rfl, hb3⟩
      have zc00 : w3.cell? ⟨w.heap.size, 0, none⟩ = some (.int .i64 M) := bget hb3 (by go_size) (by go_cell)
      have zf00 : w3.frozen? ⟨w.heap.size, 0, none⟩ = false := bfrz hb3 (by go_size) (by first | assumption | (go_simp; done) | (simp [*]; done))
      have zc01 : w3.cell? ⟨w.heap.size, 1, none⟩ = some (.int .i64 T) := bget hb3 (by go_size) (by go_cell)
      have zf01 : w3.frozen? ⟨w.heap.size, 1, none⟩ = false := bfrz hb3 (by go_size) (by first | assumption | (go_simp; done) | (simp [*]; done))
      have zz0 : w.heap.size < w3.heap.size := bsize hb3 (by go_size)
      go_wp2_with fail
      refine wp_named fun W hW => ?_
      have hWB : Below w.heap.size w W := by
        rw [← hW]
        repeat (first | with_reducible exact Below.refl _ _ | with_reducible assumption | (with_reducible refine balloc ?_) | (with_reducible refine bdrew ?_) | (with_reducible refine bset ?_ (by first | omega | (simp; done) | (simp; omega))) | (with_reducible refine bnext ?_ (by assumption)))
      have d0 := sget (W := W) (b := w3.heap.size) (o := 0) (v := .int .i64 (L - k * 3600000)) (by rw [← hW]; go_size) (by rw [← hW]; clear hW; go_cell)
      have d1 := sget (W := W) (b := w3.heap.size) (o := 1) (v := .int .i64 now) (by rw [← hW]; go_size) (by rw [← hW]; clear hW; go_cell)
      have d2 := sget (W := W) (b := w.heap.size) (o := 0) (v := .int .i64 M) (by rw [← hW]; go_size) (by rw [← hW]; clear hW; go_cell)
      have d3 := sget (W := W) (b := w.heap.size) (o := 1) (v := .int .i64 T) (by rw [← hW]; go_size) (by rw [← hW]; clear hW; go_cell)
      clear hW
      refine wp_region_bel (by kernel_rfl) (by kernel_rfl) ?_
      repeat (go_big_quiet_step (first | (go_at_call_of 10 M; exact Calls.bel_of (Left_at M T p b later n9 _ (by omega) (by omega) e9.out)) | (go_at_call 10; exact Calls.bel_of (Left_at (L - k * 3600000) now p b later n9 _ (by omega) (by omega) e8.out))))
      refine wpQuiet_nil ?_
      rintro _ ⟨s, rfl⟩
      go_wp2
      go_ret
      exact ⟨by simp, bnext hWB s.2⟩
theorem left_walk (m t p b now later : Int) (w : World) :
    Calls Try.prog 5 #[.agg #[.int .i64 m, .int .i64 t], .int .i64 p, .int .i64 b, .int .i64 now, .int .i64 later] w fun e w' => e = .returned (.bool true) ∧ Bel w w' := by
  by_cases h : 1 ≤ p ∧ p ≤ 1000 ∧ 1 ≤ b ∧ b ≤ 40 ∧ 0 ≤ now ∧ now ≤ later ∧ later ≤ 70368744177664 ∧ t ≤ now
  · obtain ⟨h1, h2, h3, h4, h5, h6, h7, h8⟩ := h
    exact left_late m t p b now later w h1 h2 h3 h4 h5 h6 h7 h8
  · exact left_early m t p b now later w (by omega)
end Go.Proofs.Ytnbfmmnbjjeecaa

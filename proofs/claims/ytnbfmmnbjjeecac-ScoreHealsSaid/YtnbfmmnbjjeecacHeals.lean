/- ScoreHeals: the walk. -/
import Derived.Test.YtnbfmmnbjjeecacInv
namespace Go.Proofs.Ytnbfmmnbjjeecac
open Go.RowKit
set_option linter.unusedVariables false
theorem Success_at (a : ByteArray) (sc dy td st nx pr sc' now : Int) (w : World) (h0 : 0 ≤ now) (h1 : now ≤ 1125899906842624) (h2 : -1 ≤ dy) (h3 : dy ≤ 1125899906842624) (hr : successH ⟨a, sc, dy, td, st, nx, pr⟩ now = ⟨a, sc', dy, td, st, nx, pr⟩) :
    Calls Try.prog 15 #[.agg #[.string a, .int .i64 sc, .int .i64 dy, .int .i64 td, .int .i64 st, .int .i64 nx, .int .i64 pr], .int .i64 now] w fun e w' => e = .returned (.agg #[.string a, .int .i64 sc', .int .i64 dy, .int .i64 td, .int .i64 st, .int .i64 nx, .int .i64 pr]) ∧ Bel w w' :=
  Success_h ⟨a, sc, dy, td, st, nx, pr⟩ ⟨a, sc', dy, td, st, nx, pr⟩ now w h0 h1 h2 h3 hr
set_option maxHeartbeats 4000000 in
theorem heals_late (a : Option Addr) (len cap : Nat) (l : List (Int × Int)) (now : Int) (w : World) (hp : IsPairs w a len cap l) (hn0 : 0 ≤ now) (hn1 : now ≤ 70368744177664) :
    Calls Try.prog 6 #[.slice a len cap, .int .i64 now] w fun e w' => e = .returned (.bool true) ∧ Bel w w' := by
  have hlen := hp.1
  have hmax := hp.2.1
  unfold maxLen at hmax
  go_enter Try.func6, Try.ntmps6
  go_wp2_with fail
  refine (small_any _).mono ?_
  rintro e w1 ⟨rfl, hb1⟩
  have hp1 := hp.below hb1
  go_wp2_with fail
  refine (right_any a len cap l _ hp1).mono ?_
  rintro e w1' ⟨q, rfl, hq, rfl⟩
  cases q
  · go_wp2_with fail
    go_ret
    exact ⟨rfl, hb1⟩
  · have hR := hq rfl
    clear hq
    replace hR := Lib.hid hR
    go_wp2_with fail
    refine (New_any { data := #[97, 64, 120] } _).mono ?_
    rintro e w2 ⟨rfl, hb2⟩
    have hB2 : Below w.heap.size w w2 := hb1.trans (hb2.mono hb1.size)
    have hp2 := hp.below hB2
    have hsz : w.heap.size ≤ w2.heap.size := hB2.size
    go_wp2_with fail
    go_loopw [8] (fun i wr => ∃ (k : Nat) (h : H), k ≤ len ∧ i = .int .i64 k ∧ Hid (HInv h k) ∧ wr.cell? ⟨w2.heap.size, 0, none⟩ = some (.string h.a) ∧ wr.cell? ⟨w2.heap.size, 1, none⟩ = some (.int .i64 h.sc) ∧ wr.cell? ⟨w2.heap.size, 2, none⟩ = some (.int .i64 h.dy) ∧ wr.cell? ⟨w2.heap.size, 3, none⟩ = some (.int .i64 h.td) ∧ wr.cell? ⟨w2.heap.size, 4, none⟩ = some (.int .i64 h.st) ∧ wr.cell? ⟨w2.heap.size, 5, none⟩ = some (.int .i64 h.nx) ∧ wr.cell? ⟨w2.heap.size, 6, none⟩ = some (.int .i64 h.pr) ∧ wr.frozen? ⟨w2.heap.size, 0, none⟩ = false ∧ wr.frozen? ⟨w2.heap.size, 1, none⟩ = false ∧ wr.frozen? ⟨w2.heap.size, 2, none⟩ = false ∧ wr.frozen? ⟨w2.heap.size, 3, none⟩ = false ∧ wr.frozen? ⟨w2.heap.size, 4, none⟩ = false ∧ wr.frozen? ⟨w2.heap.size, 5, none⟩ = false ∧ wr.frozen? ⟨w2.heap.size, 6, none⟩ = false ∧ w2.heap.size < wr.heap.size ∧ Below w2.heap.size w2 wr)
      (fun i _ => len - (intOf i).toNat)
    case atStart => exact ⟨0, ⟨{ data := #[97, 64, 120] }, 0, -1, 0, 0, 0, 0⟩, Nat.zero_le _, rfl, hinv_new, by go_cell, by go_cell, by go_cell, by go_cell, by go_cell, by go_cell, by go_cell, by first | (with_reducible assumption) | (go_simp; done) | (simp [*]; done), by first | (with_reducible assumption) | (go_simp; done) | (simp [*]; done), by first | (with_reducible assumption) | (go_simp; done) | (simp [*]; done), by first | (with_reducible assumption) | (go_simp; done) | (simp [*]; done), by first | (with_reducible assumption) | (go_simp; done) | (simp [*]; done), by first | (with_reducible assumption) | (go_simp; done) | (simp [*]; done), by first | (with_reducible assumption) | (go_simp; done) | (simp [*]; done), by go_size, (Below.refl _ _).alloc (Nat.le_refl _) _⟩
    case round =>
      obtain ⟨k, h, hk, rfl, hI, rc0, rc1, rc2, rc3, rc4, rc5, rc6, rf0, rf1, rf2, rf3, rf4, rf5, rf6, rz, rB⟩ := hrel
      by_cases hkl : k < len
      · have hpr := hp2.below rB
        obtain ⟨_, _, hc⟩ := hpr
        rcases hc with hc | ⟨b, off, rfl, hblt, hc⟩
        · omega
        obtain ⟨ck, ct, _, _⟩ := hc k hkl
        clear hc
        have hRk := hR.out.2.1 k (by omega)
        obtain ⟨t, ht⟩ : ∃ t, tm l k = t := ⟨_, rfl⟩
        obtain ⟨kk, hkk⟩ : ∃ t, kd l k = t := ⟨_, rfl⟩
        have ct' : wr.cell? ⟨b, off + k * 2 + 1, none⟩ = some (.int .i64 t) := by rw [← ht]; exact ct
        have ck' : wr.cell? ⟨b, off + k * 2, none⟩ = some (.int .i64 kk) := by rw [← hkk]; exact ck
        rw [ht] at hRk
        clear ct ck
        obtain ⟨r, hr⟩ : ∃ r, doH h kk t = r := ⟨_, rfl⟩
        obtain ⟨q, hq⟩ : ∃ q, doP h kk t = q := ⟨_, rfl⟩
        have hok := hinv_ok hI.out (by have := hR.out.1; omega) hRk.1 hRk.2
        have hI2 : HInv r (k + 1) := by rw [← hr]; exact hinv_do hI.out hRk.1 hRk.2
        have hpr0 := hI.out.2.2.2.2.2.2.2.1
        have hpr1 : h.pr ≤ 1000 := by have := hI.out.2.2.2.2.2.2.2.2; have := hR.out.1; omega
        have hpr2 : -1 ≤ h.pr := by omega
        replace hr := Lib.hid hr
        replace hq := Lib.hid hq
        replace hok := Lib.hid hok
        replace hI2 := Lib.hid hI2
        replace ht := Lib.hid ht
        replace hkk := Lib.hid hkk
        go_wp2_with fail
        go_region_with (first | (go_at_call 11; refine (do_any h r kk t q _ hok.out hpr2 hpr1 hr.out hq.out).mono ?_; rintro e w3 ⟨rfl, hb3⟩; have xc00 : w3.cell? ⟨w2.heap.size, 0, none⟩ = some (.string h.a) := bget hb3 (by go_size) (by go_cell); have xf00 : w3.frozen? ⟨w2.heap.size, 0, none⟩ = false := bfrz hb3 (by go_size) (by first | (with_reducible assumption) | (go_simp; done) | (simp [*]; done)); have xc01 : w3.cell? ⟨w2.heap.size, 1, none⟩ = some (.int .i64 h.sc) := bget hb3 (by go_size) (by go_cell); have xf01 : w3.frozen? ⟨w2.heap.size, 1, none⟩ = false := bfrz hb3 (by go_size) (by first | (with_reducible assumption) | (go_simp; done) | (simp [*]; done)); have xc02 : w3.cell? ⟨w2.heap.size, 2, none⟩ = some (.int .i64 h.dy) := bget hb3 (by go_size) (by go_cell); have xf02 : w3.frozen? ⟨w2.heap.size, 2, none⟩ = false := bfrz hb3 (by go_size) (by first | (with_reducible assumption) | (go_simp; done) | (simp [*]; done)); have xc03 : w3.cell? ⟨w2.heap.size, 3, none⟩ = some (.int .i64 h.td) := bget hb3 (by go_size) (by go_cell); have xf03 : w3.frozen? ⟨w2.heap.size, 3, none⟩ = false := bfrz hb3 (by go_size) (by first | (with_reducible assumption) | (go_simp; done) | (simp [*]; done)); have xc04 : w3.cell? ⟨w2.heap.size, 4, none⟩ = some (.int .i64 h.st) := bget hb3 (by go_size) (by go_cell); have xf04 : w3.frozen? ⟨w2.heap.size, 4, none⟩ = false := bfrz hb3 (by go_size) (by first | (with_reducible assumption) | (go_simp; done) | (simp [*]; done)); have xc05 : w3.cell? ⟨w2.heap.size, 5, none⟩ = some (.int .i64 h.nx) := bget hb3 (by go_size) (by go_cell); have xf05 : w3.frozen? ⟨w2.heap.size, 5, none⟩ = false := bfrz hb3 (by go_size) (by first | (with_reducible assumption) | (go_simp; done) | (simp [*]; done)); have xc06 : w3.cell? ⟨w2.heap.size, 6, none⟩ = some (.int .i64 h.pr) := bget hb3 (by go_size) (by go_cell); have xf06 : w3.frozen? ⟨w2.heap.size, 6, none⟩ = false := bfrz hb3 (by go_size) (by first | (with_reducible assumption) | (go_simp; done) | (simp [*]; done)); have xz0 : w2.heap.size < w3.heap.size := bsize hb3 (by go_size)))
        all_goals
          go_wp2_with fail
          go_roundw
        case rel => exact ⟨k + 1, r, by omega, by go_num, hI2, by go_cell, by go_cell, by go_cell, by go_cell, by go_cell, by go_cell, by go_cell, by first | (with_reducible assumption) | (go_simp; done) | (simp [*]; done), by first | (with_reducible assumption) | (go_simp; done) | (simp [*]; done), by first | (with_reducible assumption) | (go_simp; done) | (simp [*]; done), by first | (with_reducible assumption) | (go_simp; done) | (simp [*]; done), by first | (with_reducible assumption) | (go_simp; done) | (simp [*]; done), by first | (with_reducible assumption) | (go_simp; done) | (simp [*]; done), by first | (with_reducible assumption) | (go_simp; done) | (simp [*]; done), by go_size, by
          repeat (first | with_reducible exact Below.refl _ _ | with_reducible assumption | (with_reducible refine balloc ?_) | (with_reducible refine bdrew ?_) | (with_reducible refine bdrewN ?_) | (with_reducible refine bset ?_ (by first | omega | (simp; done) | (simp; omega))) | (with_reducible refine bnext ?_ (by assumption)))⟩
        case measure => simp [intOf]; omega
        case rel => exact ⟨k + 1, r, by omega, by go_num, hI2, by go_cell, by go_cell, by go_cell, by go_cell, by go_cell, by go_cell, by go_cell, by first | (with_reducible assumption) | (go_simp; done) | (simp [*]; done), by first | (with_reducible assumption) | (go_simp; done) | (simp [*]; done), by first | (with_reducible assumption) | (go_simp; done) | (simp [*]; done), by first | (with_reducible assumption) | (go_simp; done) | (simp [*]; done), by first | (with_reducible assumption) | (go_simp; done) | (simp [*]; done), by first | (with_reducible assumption) | (go_simp; done) | (simp [*]; done), by first | (with_reducible assumption) | (go_simp; done) | (simp [*]; done), by go_size, by
          repeat (first | with_reducible exact Below.refl _ _ | with_reducible assumption | (with_reducible refine balloc ?_) | (with_reducible refine bdrew ?_) | (with_reducible refine bdrewN ?_) | (with_reducible refine bset ?_ (by first | omega | (simp; done) | (simp; omega))) | (with_reducible refine bnext ?_ (by assumption)))⟩
        case measure => simp [intOf]; omega
      · obtain ⟨ha, hI1, hI3, hI4, hI5, _⟩ := hI.out
        obtain ⟨hha, sc, dy, td, st, nx, pr⟩ := h
        dsimp only at ha hI1 hI3 hI4 hI5 rc0 rc1 rc2 rc3 rc4 rc5 rc6
        subst ha
        by_cases c1 : st = 0 ∧ dy + 1 < now / 86400000
        · have hsu : Hid (successH ⟨{ data := #[97, 64, 120] }, sc, dy, td, st, nx, pr⟩ now = ⟨{ data := #[97, 64, 120] }, 0, dy, td, st, nx, pr⟩) := Lib.hid (by rw [successH, if_pos c1])
          obtain ⟨c2, c3⟩ := c1
          have c2' : (st == 0) = true := by simp [c2]
          clear c2
          go_wp2_with fail
          refine (Resume_any ⟨{ data := #[97, 64, 120] }, sc, dy, td, st, nx, pr⟩ _).mono ?_
          rintro e w4 ⟨rfl, hb4⟩
          have yc00 : w4.cell? ⟨w2.heap.size, 0, none⟩ = some (.string { data := #[97, 64, 120] }) := bget hb4 (by go_size) (by go_cell)
          have yf00 : w4.frozen? ⟨w2.heap.size, 0, none⟩ = false := bfrz hb4 (by go_size) (by first | (with_reducible assumption) | (go_simp; done) | (simp [*]; done))
          have yc01 : w4.cell? ⟨w2.heap.size, 1, none⟩ = some (.int .i64 sc) := bget hb4 (by go_size) (by go_cell)
          have yf01 : w4.frozen? ⟨w2.heap.size, 1, none⟩ = false := bfrz hb4 (by go_size) (by first | (with_reducible assumption) | (go_simp; done) | (simp [*]; done))
          have yc02 : w4.cell? ⟨w2.heap.size, 2, none⟩ = some (.int .i64 dy) := bget hb4 (by go_size) (by go_cell)
          have yf02 : w4.frozen? ⟨w2.heap.size, 2, none⟩ = false := bfrz hb4 (by go_size) (by first | (with_reducible assumption) | (go_simp; done) | (simp [*]; done))
          have yc03 : w4.cell? ⟨w2.heap.size, 3, none⟩ = some (.int .i64 td) := bget hb4 (by go_size) (by go_cell)
          have yf03 : w4.frozen? ⟨w2.heap.size, 3, none⟩ = false := bfrz hb4 (by go_size) (by first | (with_reducible assumption) | (go_simp; done) | (simp [*]; done))
          have yc04 : w4.cell? ⟨w2.heap.size, 4, none⟩ = some (.int .i64 st) := bget hb4 (by go_size) (by go_cell)
          have yf04 : w4.frozen? ⟨w2.heap.size, 4, none⟩ = false := bfrz hb4 (by go_size) (by first | (with_reducible assumption) | (go_simp; done) | (simp [*]; done))
          have yc05 : w4.cell? ⟨w2.heap.size, 5, none⟩ = some (.int .i64 nx) := bget hb4 (by go_size) (by go_cell)
          have yf05 : w4.frozen? ⟨w2.heap.size, 5, none⟩ = false := bfrz hb4 (by go_size) (by first | (with_reducible assumption) | (go_simp; done) | (simp [*]; done))
          have yc06 : w4.cell? ⟨w2.heap.size, 6, none⟩ = some (.int .i64 pr) := bget hb4 (by go_size) (by go_cell)
          have yf06 : w4.frozen? ⟨w2.heap.size, 6, none⟩ = false := bfrz hb4 (by go_size) (by first | (with_reducible assumption) | (go_simp; done) | (simp [*]; done))
          have yz0 : w2.heap.size < w4.heap.size := bsize hb4 (by go_size)
          go_wp2_with fail
          refine (New_any { data := #[97, 64, 120] } _).mono ?_
          rintro e w5 ⟨rfl, hb5⟩
          have zc00 : w5.cell? ⟨w2.heap.size, 0, none⟩ = some (.string { data := #[97, 64, 120] }) := bget hb5 (by go_size) (by go_cell)
          have zf00 : w5.frozen? ⟨w2.heap.size, 0, none⟩ = false := bfrz hb5 (by go_size) (by first | (with_reducible assumption) | (go_simp; done) | (simp [*]; done))
          have zc01 : w5.cell? ⟨w2.heap.size, 1, none⟩ = some (.int .i64 sc) := bget hb5 (by go_size) (by go_cell)
          have zf01 : w5.frozen? ⟨w2.heap.size, 1, none⟩ = false := bfrz hb5 (by go_size) (by first | (with_reducible assumption) | (go_simp; done) | (simp [*]; done))
          have zc02 : w5.cell? ⟨w2.heap.size, 2, none⟩ = some (.int .i64 dy) := bget hb5 (by go_size) (by go_cell)
          have zf02 : w5.frozen? ⟨w2.heap.size, 2, none⟩ = false := bfrz hb5 (by go_size) (by first | (with_reducible assumption) | (go_simp; done) | (simp [*]; done))
          have zc03 : w5.cell? ⟨w2.heap.size, 3, none⟩ = some (.int .i64 td) := bget hb5 (by go_size) (by go_cell)
          have zf03 : w5.frozen? ⟨w2.heap.size, 3, none⟩ = false := bfrz hb5 (by go_size) (by first | (with_reducible assumption) | (go_simp; done) | (simp [*]; done))
          have zc04 : w5.cell? ⟨w2.heap.size, 4, none⟩ = some (.int .i64 st) := bget hb5 (by go_size) (by go_cell)
          have zf04 : w5.frozen? ⟨w2.heap.size, 4, none⟩ = false := bfrz hb5 (by go_size) (by first | (with_reducible assumption) | (go_simp; done) | (simp [*]; done))
          have zc05 : w5.cell? ⟨w2.heap.size, 5, none⟩ = some (.int .i64 nx) := bget hb5 (by go_size) (by go_cell)
          have zf05 : w5.frozen? ⟨w2.heap.size, 5, none⟩ = false := bfrz hb5 (by go_size) (by first | (with_reducible assumption) | (go_simp; done) | (simp [*]; done))
          have zc06 : w5.cell? ⟨w2.heap.size, 6, none⟩ = some (.int .i64 pr) := bget hb5 (by go_size) (by go_cell)
          have zf06 : w5.frozen? ⟨w2.heap.size, 6, none⟩ = false := bfrz hb5 (by go_size) (by first | (with_reducible assumption) | (go_simp; done) | (simp [*]; done))
          have zz0 : w2.heap.size < w5.heap.size := bsize hb5 (by go_size)
          go_wp2_with fail
          refine (Success_at { data := #[97, 64, 120] } sc dy td st nx pr 0 now _ hn0 (by omega) (by omega) (by omega) hsu.out).mono ?_
          rintro e w6 ⟨rfl, hb6⟩
          have uc00 : w6.cell? ⟨w2.heap.size, 0, none⟩ = some (.string { data := #[97, 64, 120] }) := bget hb6 (by go_size) (by go_cell)
          have uf00 : w6.frozen? ⟨w2.heap.size, 0, none⟩ = false := bfrz hb6 (by go_size) (by first | (with_reducible assumption) | (go_simp; done) | (simp [*]; done))
          have uc01 : w6.cell? ⟨w2.heap.size, 1, none⟩ = some (.int .i64 sc) := bget hb6 (by go_size) (by go_cell)
          have uf01 : w6.frozen? ⟨w2.heap.size, 1, none⟩ = false := bfrz hb6 (by go_size) (by first | (with_reducible assumption) | (go_simp; done) | (simp [*]; done))
          have uc02 : w6.cell? ⟨w2.heap.size, 2, none⟩ = some (.int .i64 dy) := bget hb6 (by go_size) (by go_cell)
          have uf02 : w6.frozen? ⟨w2.heap.size, 2, none⟩ = false := bfrz hb6 (by go_size) (by first | (with_reducible assumption) | (go_simp; done) | (simp [*]; done))
          have uc03 : w6.cell? ⟨w2.heap.size, 3, none⟩ = some (.int .i64 td) := bget hb6 (by go_size) (by go_cell)
          have uf03 : w6.frozen? ⟨w2.heap.size, 3, none⟩ = false := bfrz hb6 (by go_size) (by first | (with_reducible assumption) | (go_simp; done) | (simp [*]; done))
          have uc04 : w6.cell? ⟨w2.heap.size, 4, none⟩ = some (.int .i64 st) := bget hb6 (by go_size) (by go_cell)
          have uf04 : w6.frozen? ⟨w2.heap.size, 4, none⟩ = false := bfrz hb6 (by go_size) (by first | (with_reducible assumption) | (go_simp; done) | (simp [*]; done))
          have uc05 : w6.cell? ⟨w2.heap.size, 5, none⟩ = some (.int .i64 nx) := bget hb6 (by go_size) (by go_cell)
          have uf05 : w6.frozen? ⟨w2.heap.size, 5, none⟩ = false := bfrz hb6 (by go_size) (by first | (with_reducible assumption) | (go_simp; done) | (simp [*]; done))
          have uc06 : w6.cell? ⟨w2.heap.size, 6, none⟩ = some (.int .i64 pr) := bget hb6 (by go_size) (by go_cell)
          have uf06 : w6.frozen? ⟨w2.heap.size, 6, none⟩ = false := bfrz hb6 (by go_size) (by first | (with_reducible assumption) | (go_simp; done) | (simp [*]; done))
          have uz0 : w2.heap.size < w6.heap.size := bsize hb6 (by go_size)
          go_wp2_with fail
          go_ret
          refine ⟨rfl, ?_⟩
          have hBr : Below w.heap.size w wr := hB2.trans (rB.mono hsz)
          have hwr : w.heap.size ≤ wr.heap.size := hBr.size
          have hw4 := hb4.size
          have hw5 := hb5.size
          have hw6 := hb6.size
          repeat (first | with_reducible exact Below.refl _ _ | with_reducible assumption | (with_reducible refine balloc ?_) | (with_reducible refine bdrew ?_) | (with_reducible refine bdrewN ?_) | (with_reducible refine bset ?_ (by first | omega | (simp; done) | (simp; omega))) | (with_reducible refine bnext ?_ (by assumption)))
        · have hsu : Hid (successH ⟨{ data := #[97, 64, 120] }, sc, dy, td, st, nx, pr⟩ now = ⟨{ data := #[97, 64, 120] }, sc, dy, td, st, nx, pr⟩) := Lib.hid (by rw [successH, if_neg c1])
          by_cases c2 : st = 0
          · have c2' : (st == 0) = true := by simp [c2]
            have c3 : ¬ dy + 1 < now / 86400000 := fun h => c1 ⟨c2, h⟩
            clear c2 c1
            go_wp2_with fail
            refine (Resume_any ⟨{ data := #[97, 64, 120] }, sc, dy, td, st, nx, pr⟩ _).mono ?_
            rintro e w4 ⟨rfl, hb4⟩
            have yc00 : w4.cell? ⟨w2.heap.size, 0, none⟩ = some (.string { data := #[97, 64, 120] }) := bget hb4 (by go_size) (by go_cell)
            have yf00 : w4.frozen? ⟨w2.heap.size, 0, none⟩ = false := bfrz hb4 (by go_size) (by first | (with_reducible assumption) | (go_simp; done) | (simp [*]; done))
            have yc01 : w4.cell? ⟨w2.heap.size, 1, none⟩ = some (.int .i64 sc) := bget hb4 (by go_size) (by go_cell)
            have yf01 : w4.frozen? ⟨w2.heap.size, 1, none⟩ = false := bfrz hb4 (by go_size) (by first | (with_reducible assumption) | (go_simp; done) | (simp [*]; done))
            have yc02 : w4.cell? ⟨w2.heap.size, 2, none⟩ = some (.int .i64 dy) := bget hb4 (by go_size) (by go_cell)
            have yf02 : w4.frozen? ⟨w2.heap.size, 2, none⟩ = false := bfrz hb4 (by go_size) (by first | (with_reducible assumption) | (go_simp; done) | (simp [*]; done))
            have yc03 : w4.cell? ⟨w2.heap.size, 3, none⟩ = some (.int .i64 td) := bget hb4 (by go_size) (by go_cell)
            have yf03 : w4.frozen? ⟨w2.heap.size, 3, none⟩ = false := bfrz hb4 (by go_size) (by first | (with_reducible assumption) | (go_simp; done) | (simp [*]; done))
            have yc04 : w4.cell? ⟨w2.heap.size, 4, none⟩ = some (.int .i64 st) := bget hb4 (by go_size) (by go_cell)
            have yf04 : w4.frozen? ⟨w2.heap.size, 4, none⟩ = false := bfrz hb4 (by go_size) (by first | (with_reducible assumption) | (go_simp; done) | (simp [*]; done))
            have yc05 : w4.cell? ⟨w2.heap.size, 5, none⟩ = some (.int .i64 nx) := bget hb4 (by go_size) (by go_cell)
            have yf05 : w4.frozen? ⟨w2.heap.size, 5, none⟩ = false := bfrz hb4 (by go_size) (by first | (with_reducible assumption) | (go_simp; done) | (simp [*]; done))
            have yc06 : w4.cell? ⟨w2.heap.size, 6, none⟩ = some (.int .i64 pr) := bget hb4 (by go_size) (by go_cell)
            have yf06 : w4.frozen? ⟨w2.heap.size, 6, none⟩ = false := bfrz hb4 (by go_size) (by first | (with_reducible assumption) | (go_simp; done) | (simp [*]; done))
            have yz0 : w2.heap.size < w4.heap.size := bsize hb4 (by go_size)
            go_wp2_with fail
            refine (New_any { data := #[97, 64, 120] } _).mono ?_
            rintro e w5 ⟨rfl, hb5⟩
            have zc00 : w5.cell? ⟨w2.heap.size, 0, none⟩ = some (.string { data := #[97, 64, 120] }) := bget hb5 (by go_size) (by go_cell)
            have zf00 : w5.frozen? ⟨w2.heap.size, 0, none⟩ = false := bfrz hb5 (by go_size) (by first | (with_reducible assumption) | (go_simp; done) | (simp [*]; done))
            have zc01 : w5.cell? ⟨w2.heap.size, 1, none⟩ = some (.int .i64 sc) := bget hb5 (by go_size) (by go_cell)
            have zf01 : w5.frozen? ⟨w2.heap.size, 1, none⟩ = false := bfrz hb5 (by go_size) (by first | (with_reducible assumption) | (go_simp; done) | (simp [*]; done))
            have zc02 : w5.cell? ⟨w2.heap.size, 2, none⟩ = some (.int .i64 dy) := bget hb5 (by go_size) (by go_cell)
            have zf02 : w5.frozen? ⟨w2.heap.size, 2, none⟩ = false := bfrz hb5 (by go_size) (by first | (with_reducible assumption) | (go_simp; done) | (simp [*]; done))
            have zc03 : w5.cell? ⟨w2.heap.size, 3, none⟩ = some (.int .i64 td) := bget hb5 (by go_size) (by go_cell)
            have zf03 : w5.frozen? ⟨w2.heap.size, 3, none⟩ = false := bfrz hb5 (by go_size) (by first | (with_reducible assumption) | (go_simp; done) | (simp [*]; done))
            have zc04 : w5.cell? ⟨w2.heap.size, 4, none⟩ = some (.int .i64 st) := bget hb5 (by go_size) (by go_cell)
            have zf04 : w5.frozen? ⟨w2.heap.size, 4, none⟩ = false := bfrz hb5 (by go_size) (by first | (with_reducible assumption) | (go_simp; done) | (simp [*]; done))
            have zc05 : w5.cell? ⟨w2.heap.size, 5, none⟩ = some (.int .i64 nx) := bget hb5 (by go_size) (by go_cell)
            have zf05 : w5.frozen? ⟨w2.heap.size, 5, none⟩ = false := bfrz hb5 (by go_size) (by first | (with_reducible assumption) | (go_simp; done) | (simp [*]; done))
            have zc06 : w5.cell? ⟨w2.heap.size, 6, none⟩ = some (.int .i64 pr) := bget hb5 (by go_size) (by go_cell)
            have zf06 : w5.frozen? ⟨w2.heap.size, 6, none⟩ = false := bfrz hb5 (by go_size) (by first | (with_reducible assumption) | (go_simp; done) | (simp [*]; done))
            have zz0 : w2.heap.size < w5.heap.size := bsize hb5 (by go_size)
            go_wp2_with fail
            refine (Success_at { data := #[97, 64, 120] } sc dy td st nx pr sc now _ hn0 (by omega) (by omega) (by omega) hsu.out).mono ?_
            rintro e w6 ⟨rfl, hb6⟩
            have uc00 : w6.cell? ⟨w2.heap.size, 0, none⟩ = some (.string { data := #[97, 64, 120] }) := bget hb6 (by go_size) (by go_cell)
            have uf00 : w6.frozen? ⟨w2.heap.size, 0, none⟩ = false := bfrz hb6 (by go_size) (by first | (with_reducible assumption) | (go_simp; done) | (simp [*]; done))
            have uc01 : w6.cell? ⟨w2.heap.size, 1, none⟩ = some (.int .i64 sc) := bget hb6 (by go_size) (by go_cell)
            have uf01 : w6.frozen? ⟨w2.heap.size, 1, none⟩ = false := bfrz hb6 (by go_size) (by first | (with_reducible assumption) | (go_simp; done) | (simp [*]; done))
            have uc02 : w6.cell? ⟨w2.heap.size, 2, none⟩ = some (.int .i64 dy) := bget hb6 (by go_size) (by go_cell)
            have uf02 : w6.frozen? ⟨w2.heap.size, 2, none⟩ = false := bfrz hb6 (by go_size) (by first | (with_reducible assumption) | (go_simp; done) | (simp [*]; done))
            have uc03 : w6.cell? ⟨w2.heap.size, 3, none⟩ = some (.int .i64 td) := bget hb6 (by go_size) (by go_cell)
            have uf03 : w6.frozen? ⟨w2.heap.size, 3, none⟩ = false := bfrz hb6 (by go_size) (by first | (with_reducible assumption) | (go_simp; done) | (simp [*]; done))
            have uc04 : w6.cell? ⟨w2.heap.size, 4, none⟩ = some (.int .i64 st) := bget hb6 (by go_size) (by go_cell)
            have uf04 : w6.frozen? ⟨w2.heap.size, 4, none⟩ = false := bfrz hb6 (by go_size) (by first | (with_reducible assumption) | (go_simp; done) | (simp [*]; done))
            have uc05 : w6.cell? ⟨w2.heap.size, 5, none⟩ = some (.int .i64 nx) := bget hb6 (by go_size) (by go_cell)
            have uf05 : w6.frozen? ⟨w2.heap.size, 5, none⟩ = false := bfrz hb6 (by go_size) (by first | (with_reducible assumption) | (go_simp; done) | (simp [*]; done))
            have uc06 : w6.cell? ⟨w2.heap.size, 6, none⟩ = some (.int .i64 pr) := bget hb6 (by go_size) (by go_cell)
            have uf06 : w6.frozen? ⟨w2.heap.size, 6, none⟩ = false := bfrz hb6 (by go_size) (by first | (with_reducible assumption) | (go_simp; done) | (simp [*]; done))
            have uz0 : w2.heap.size < w6.heap.size := bsize hb6 (by go_size)
            go_wp2_with fail
            go_ret
            refine ⟨rfl, ?_⟩
            have hBr : Below w.heap.size w wr := hB2.trans (rB.mono hsz)
            have hwr : w.heap.size ≤ wr.heap.size := hBr.size
            have hw4 := hb4.size
            have hw5 := hb5.size
            have hw6 := hb6.size
            repeat (first | with_reducible exact Below.refl _ _ | with_reducible assumption | (with_reducible refine balloc ?_) | (with_reducible refine bdrew ?_) | (with_reducible refine bdrewN ?_) | (with_reducible refine bset ?_ (by first | omega | (simp; done) | (simp; omega))) | (with_reducible refine bnext ?_ (by assumption)))
          · have c2' : (st == 0) = false := by simp [c2]
            clear c2 c1
            go_wp2_with fail
            refine (Resume_any ⟨{ data := #[97, 64, 120] }, sc, dy, td, st, nx, pr⟩ _).mono ?_
            rintro e w4 ⟨rfl, hb4⟩
            have yc00 : w4.cell? ⟨w2.heap.size, 0, none⟩ = some (.string { data := #[97, 64, 120] }) := bget hb4 (by go_size) (by go_cell)
            have yf00 : w4.frozen? ⟨w2.heap.size, 0, none⟩ = false := bfrz hb4 (by go_size) (by first | (with_reducible assumption) | (go_simp; done) | (simp [*]; done))
            have yc01 : w4.cell? ⟨w2.heap.size, 1, none⟩ = some (.int .i64 sc) := bget hb4 (by go_size) (by go_cell)
            have yf01 : w4.frozen? ⟨w2.heap.size, 1, none⟩ = false := bfrz hb4 (by go_size) (by first | (with_reducible assumption) | (go_simp; done) | (simp [*]; done))
            have yc02 : w4.cell? ⟨w2.heap.size, 2, none⟩ = some (.int .i64 dy) := bget hb4 (by go_size) (by go_cell)
            have yf02 : w4.frozen? ⟨w2.heap.size, 2, none⟩ = false := bfrz hb4 (by go_size) (by first | (with_reducible assumption) | (go_simp; done) | (simp [*]; done))
            have yc03 : w4.cell? ⟨w2.heap.size, 3, none⟩ = some (.int .i64 td) := bget hb4 (by go_size) (by go_cell)
            have yf03 : w4.frozen? ⟨w2.heap.size, 3, none⟩ = false := bfrz hb4 (by go_size) (by first | (with_reducible assumption) | (go_simp; done) | (simp [*]; done))
            have yc04 : w4.cell? ⟨w2.heap.size, 4, none⟩ = some (.int .i64 st) := bget hb4 (by go_size) (by go_cell)
            have yf04 : w4.frozen? ⟨w2.heap.size, 4, none⟩ = false := bfrz hb4 (by go_size) (by first | (with_reducible assumption) | (go_simp; done) | (simp [*]; done))
            have yc05 : w4.cell? ⟨w2.heap.size, 5, none⟩ = some (.int .i64 nx) := bget hb4 (by go_size) (by go_cell)
            have yf05 : w4.frozen? ⟨w2.heap.size, 5, none⟩ = false := bfrz hb4 (by go_size) (by first | (with_reducible assumption) | (go_simp; done) | (simp [*]; done))
            have yc06 : w4.cell? ⟨w2.heap.size, 6, none⟩ = some (.int .i64 pr) := bget hb4 (by go_size) (by go_cell)
            have yf06 : w4.frozen? ⟨w2.heap.size, 6, none⟩ = false := bfrz hb4 (by go_size) (by first | (with_reducible assumption) | (go_simp; done) | (simp [*]; done))
            have yz0 : w2.heap.size < w4.heap.size := bsize hb4 (by go_size)
            go_wp2_with fail
            refine (New_any { data := #[97, 64, 120] } _).mono ?_
            rintro e w5 ⟨rfl, hb5⟩
            have zc00 : w5.cell? ⟨w2.heap.size, 0, none⟩ = some (.string { data := #[97, 64, 120] }) := bget hb5 (by go_size) (by go_cell)
            have zf00 : w5.frozen? ⟨w2.heap.size, 0, none⟩ = false := bfrz hb5 (by go_size) (by first | (with_reducible assumption) | (go_simp; done) | (simp [*]; done))
            have zc01 : w5.cell? ⟨w2.heap.size, 1, none⟩ = some (.int .i64 sc) := bget hb5 (by go_size) (by go_cell)
            have zf01 : w5.frozen? ⟨w2.heap.size, 1, none⟩ = false := bfrz hb5 (by go_size) (by first | (with_reducible assumption) | (go_simp; done) | (simp [*]; done))
            have zc02 : w5.cell? ⟨w2.heap.size, 2, none⟩ = some (.int .i64 dy) := bget hb5 (by go_size) (by go_cell)
            have zf02 : w5.frozen? ⟨w2.heap.size, 2, none⟩ = false := bfrz hb5 (by go_size) (by first | (with_reducible assumption) | (go_simp; done) | (simp [*]; done))
            have zc03 : w5.cell? ⟨w2.heap.size, 3, none⟩ = some (.int .i64 td) := bget hb5 (by go_size) (by go_cell)
            have zf03 : w5.frozen? ⟨w2.heap.size, 3, none⟩ = false := bfrz hb5 (by go_size) (by first | (with_reducible assumption) | (go_simp; done) | (simp [*]; done))
            have zc04 : w5.cell? ⟨w2.heap.size, 4, none⟩ = some (.int .i64 st) := bget hb5 (by go_size) (by go_cell)
            have zf04 : w5.frozen? ⟨w2.heap.size, 4, none⟩ = false := bfrz hb5 (by go_size) (by first | (with_reducible assumption) | (go_simp; done) | (simp [*]; done))
            have zc05 : w5.cell? ⟨w2.heap.size, 5, none⟩ = some (.int .i64 nx) := bget hb5 (by go_size) (by go_cell)
            have zf05 : w5.frozen? ⟨w2.heap.size, 5, none⟩ = false := bfrz hb5 (by go_size) (by first | (with_reducible assumption) | (go_simp; done) | (simp [*]; done))
            have zc06 : w5.cell? ⟨w2.heap.size, 6, none⟩ = some (.int .i64 pr) := bget hb5 (by go_size) (by go_cell)
            have zf06 : w5.frozen? ⟨w2.heap.size, 6, none⟩ = false := bfrz hb5 (by go_size) (by first | (with_reducible assumption) | (go_simp; done) | (simp [*]; done))
            have zz0 : w2.heap.size < w5.heap.size := bsize hb5 (by go_size)
            go_wp2_with fail
            refine (Success_at { data := #[97, 64, 120] } sc dy td st nx pr sc now _ hn0 (by omega) (by omega) (by omega) hsu.out).mono ?_
            rintro e w6 ⟨rfl, hb6⟩
            have uc00 : w6.cell? ⟨w2.heap.size, 0, none⟩ = some (.string { data := #[97, 64, 120] }) := bget hb6 (by go_size) (by go_cell)
            have uf00 : w6.frozen? ⟨w2.heap.size, 0, none⟩ = false := bfrz hb6 (by go_size) (by first | (with_reducible assumption) | (go_simp; done) | (simp [*]; done))
            have uc01 : w6.cell? ⟨w2.heap.size, 1, none⟩ = some (.int .i64 sc) := bget hb6 (by go_size) (by go_cell)
            have uf01 : w6.frozen? ⟨w2.heap.size, 1, none⟩ = false := bfrz hb6 (by go_size) (by first | (with_reducible assumption) | (go_simp; done) | (simp [*]; done))
            have uc02 : w6.cell? ⟨w2.heap.size, 2, none⟩ = some (.int .i64 dy) := bget hb6 (by go_size) (by go_cell)
            have uf02 : w6.frozen? ⟨w2.heap.size, 2, none⟩ = false := bfrz hb6 (by go_size) (by first | (with_reducible assumption) | (go_simp; done) | (simp [*]; done))
            have uc03 : w6.cell? ⟨w2.heap.size, 3, none⟩ = some (.int .i64 td) := bget hb6 (by go_size) (by go_cell)
            have uf03 : w6.frozen? ⟨w2.heap.size, 3, none⟩ = false := bfrz hb6 (by go_size) (by first | (with_reducible assumption) | (go_simp; done) | (simp [*]; done))
            have uc04 : w6.cell? ⟨w2.heap.size, 4, none⟩ = some (.int .i64 st) := bget hb6 (by go_size) (by go_cell)
            have uf04 : w6.frozen? ⟨w2.heap.size, 4, none⟩ = false := bfrz hb6 (by go_size) (by first | (with_reducible assumption) | (go_simp; done) | (simp [*]; done))
            have uc05 : w6.cell? ⟨w2.heap.size, 5, none⟩ = some (.int .i64 nx) := bget hb6 (by go_size) (by go_cell)
            have uf05 : w6.frozen? ⟨w2.heap.size, 5, none⟩ = false := bfrz hb6 (by go_size) (by first | (with_reducible assumption) | (go_simp; done) | (simp [*]; done))
            have uc06 : w6.cell? ⟨w2.heap.size, 6, none⟩ = some (.int .i64 pr) := bget hb6 (by go_size) (by go_cell)
            have uf06 : w6.frozen? ⟨w2.heap.size, 6, none⟩ = false := bfrz hb6 (by go_size) (by first | (with_reducible assumption) | (go_simp; done) | (simp [*]; done))
            have uz0 : w2.heap.size < w6.heap.size := bsize hb6 (by go_size)
            go_wp2_with fail
            go_ret
            refine ⟨rfl, ?_⟩
            have hBr : Below w.heap.size w wr := hB2.trans (rB.mono hsz)
            have hwr : w.heap.size ≤ wr.heap.size := hBr.size
            have hw4 := hb4.size
            have hw5 := hb5.size
            have hw6 := hb6.size
            repeat (first | with_reducible exact Below.refl _ _ | with_reducible assumption | (with_reducible refine balloc ?_) | (with_reducible refine bdrew ?_) | (with_reducible refine bdrewN ?_) | (with_reducible refine bset ?_ (by first | omega | (simp; done) | (simp; omega))) | (with_reducible refine bnext ?_ (by assumption)))
theorem heals_early (a : Option Addr) (len cap : Nat) (l : List (Int × Int)) (now : Int) (w : World) (hp : IsPairs w a len cap l) (hn : now < 0 ∨ 0 ≤ now ∧ 70368744177664 < now) :
    Calls Try.prog 6 #[.slice a len cap, .int .i64 now] w fun e w' => e = .returned (.bool true) ∧ Bel w w' := by
  rcases hn with h1 | ⟨h1, h2⟩
  all_goals
    go_enter Try.func6, Try.ntmps6
    go_wp2_with fail
    refine (small_any _).mono ?_
    rintro e w1 ⟨rfl, hb1⟩
    have hp1 := hp.below hb1
    go_wp2_with fail
    refine (right_any a len cap l _ hp1).mono ?_
    rintro e w1' ⟨q, rfl, hq, rfl⟩
    clear hq
    cases q
    · go_wp2_with fail
      go_ret
      exact ⟨rfl, hb1⟩
    · go_wp2_with fail
      go_ret
      exact ⟨rfl, hb1⟩
theorem heals_walk (a : Option Addr) (len cap : Nat) (l : List (Int × Int)) (now : Int) (w : World) (hp : IsPairs w a len cap l) :
    Calls Try.prog 6 #[.slice a len cap, .int .i64 now] w fun e w' => e = .returned (.bool true) ∧ Bel w w' := by
  by_cases h : 0 ≤ now ∧ now ≤ 70368744177664
  · exact heals_late a len cap l now w hp h.1 h.2
  · exact heals_early a len cap l now w hp (by omega)
end Go.Proofs.Ytnbfmmnbjjeecac

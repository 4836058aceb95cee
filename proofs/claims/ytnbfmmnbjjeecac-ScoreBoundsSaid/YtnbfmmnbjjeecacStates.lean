/- ScoreStates: the walk. -/
import Derived.Test.YtnbfmmnbjjeecacStatesLaw
import Derived.Test.YtnbfmmnbjjeecacTail
import Derived.Deep.Cut
namespace Go.Proofs.Ytnbfmmnbjjeecac
open Go.RowKit
set_option linter.unusedVariables false
theorem do_at (a : ByteArray) (sc dy td st nx pr sc' dy' td' st' nx' pr' k t : Int) (q : Bool) (w : World) (ok : HOk ⟨a, sc, dy, td, st, nx, pr⟩ t) (hp0 : -1 ≤ pr) (hp1 : pr ≤ 1000) (e : doH ⟨a, sc, dy, td, st, nx, pr⟩ k t = ⟨a, sc', dy', td', st', nx', pr'⟩) (hq : doP ⟨a, sc, dy, td, st, nx, pr⟩ k t = q) :
    Calls Try.prog 11 #[.agg #[.string a, .int .i64 sc, .int .i64 dy, .int .i64 td, .int .i64 st, .int .i64 nx, .int .i64 pr], .agg #[.int .i64 k, .int .i64 t]] w fun e w' => e = .returned (.tuple #[.agg #[.string a, .int .i64 sc', .int .i64 dy', .int .i64 td', .int .i64 st', .int .i64 nx', .int .i64 pr'], .bool q]) ∧ Bel w w' :=
  do_any ⟨a, sc, dy, td, st, nx, pr⟩ ⟨a, sc', dy', td', st', nx', pr'⟩ k t q w ok hp0 hp1 e hq
set_option maxRecDepth 100000 in
set_option maxHeartbeats 8000000 in
theorem states_walk (a : Option Addr) (len cap : Nat) (l : List (Int × Int)) (w : World) (hp : IsPairs w a len cap l) :
    Calls Try.prog 5 #[.slice a len cap] w fun e w' => e = .returned (.bool true) ∧ Bel w w' := by
  have hlen := hp.1
  have hmax := hp.2.1
  unfold maxLen at hmax
  go_enter Try.func5, Try.ntmps5
  go_wp2_with fail
  refine (small_any _).mono ?_
  rintro e w1 ⟨rfl, hb1⟩
  have hp1 := hp.below hb1
  go_wp2_with fail
  refine (right_any a len cap l _ hp1).mono ?_
  rintro e w1' ⟨q, rfl, hq, rfl⟩
  cases q
  · go_wp2_with fail
    go_ret
    exact ⟨rfl, hb1⟩
  · have hR := hq rfl
    clear hq
    replace hR := Lib.hid hR
    go_wp2_with fail
    refine (New_any { data := #[97, 64, 120] } _).mono ?_
    rintro e w2 ⟨rfl, hb2⟩
    have hB2 : Below w.heap.size w w2 := hb1.trans (hb2.mono hb1.size)
    have hp2 := hp.below hB2
    have hsz : w.heap.size ≤ w2.heap.size := hB2.size
    go_wp2_with fail
    go_loopw [6] (fun i wr => ∃ (k : Nat) (h : H), k ≤ len ∧ i = .int .i64 k ∧ Hid (HInv h k ∧ HP h) ∧ wr.cell? ⟨w2.heap.size, 0, none⟩ = some (.string h.a) ∧ wr.cell? ⟨w2.heap.size, 1, none⟩ = some (.int .i64 h.sc) ∧ wr.cell? ⟨w2.heap.size, 2, none⟩ = some (.int .i64 h.dy) ∧ wr.cell? ⟨w2.heap.size, 3, none⟩ = some (.int .i64 h.td) ∧ wr.cell? ⟨w2.heap.size, 4, none⟩ = some (.int .i64 h.st) ∧ wr.cell? ⟨w2.heap.size, 5, none⟩ = some (.int .i64 h.nx) ∧ wr.cell? ⟨w2.heap.size, 6, none⟩ = some (.int .i64 h.pr) ∧ wr.frozen? ⟨w2.heap.size, 0, none⟩ = false ∧ wr.frozen? ⟨w2.heap.size, 1, none⟩ = false ∧ wr.frozen? ⟨w2.heap.size, 2, none⟩ = false ∧ wr.frozen? ⟨w2.heap.size, 3, none⟩ = false ∧ wr.frozen? ⟨w2.heap.size, 4, none⟩ = false ∧ wr.frozen? ⟨w2.heap.size, 5, none⟩ = false ∧ wr.frozen? ⟨w2.heap.size, 6, none⟩ = false ∧ w2.heap.size < wr.heap.size ∧ Below w2.heap.size w2 wr)
      (fun i _ => len - (intOf i).toNat)
    case atStart => exact ⟨0, ⟨{ data := #[97, 64, 120] }, 0, -1, 0, 0, 0, 0⟩, Nat.zero_le _, rfl, ⟨hinv_new, fun _ => by show (0 : Int) ≤ 2; omega⟩, by go_cell, by go_cell, by go_cell, by go_cell, by go_cell, by go_cell, by go_cell, by first | (with_reducible assumption) | (go_simp; done) | (simp [*]; done), by first | (with_reducible assumption) | (go_simp; done) | (simp [*]; done), by first | (with_reducible assumption) | (go_simp; done) | (simp [*]; done), by first | (with_reducible assumption) | (go_simp; done) | (simp [*]; done), by first | (with_reducible assumption) | (go_simp; done) | (simp [*]; done), by first | (with_reducible assumption) | (go_simp; done) | (simp [*]; done), by first | (with_reducible assumption) | (go_simp; done) | (simp [*]; done), by go_size, (Below.refl _ _).alloc (Nat.le_refl _) _⟩
    case round =>
      obtain ⟨k, ⟨ha, sc, dy, td, st, nx, pr⟩, hk, rfl, hI, rc0, rc1, rc2, rc3, rc4, rc5, rc6, rf0, rf1, rf2, rf3, rf4, rf5, rf6, rz, rB⟩ := hrel
      have hha : ha = { data := #[97, 64, 120] } := hI.out.1.1
      subst hha
      dsimp only at rc0 rc1 rc2 rc3 rc4 rc5 rc6
      by_cases hkl : k < len
      · obtain ⟨_, _, hc⟩ := hp
        rcases hc with hc | ⟨b, off, rfl, hblt, hc⟩
        · omega
        obtain ⟨ck0, ct0, _, _⟩ := hc k hkl
        have ck := (rB.cell (p := ⟨b, off + k * 2, none⟩) (by show b < _; omega)).trans ((hB2.cell (p := ⟨b, off + k * 2, none⟩) hblt).trans ck0)
        have ct := (rB.cell (p := ⟨b, off + (k * 2 + 1), none⟩) (by show b < _; omega)).trans ((hB2.cell (p := ⟨b, off + (k * 2 + 1), none⟩) hblt).trans ct0)
        have hbr : b < wr.heap.size := by omega
        clear hc ck0 ct0
        have hRk := hR.out.2.1 k (by omega)
        obtain ⟨t, ht⟩ : ∃ t, tm l k = t := ⟨_, rfl⟩
        obtain ⟨kk, hkk⟩ : ∃ t, kd l k = t := ⟨_, rfl⟩
        have ct' : wr.cell? ⟨b, off + k * 2 + 1, none⟩ = some (.int .i64 t) := by rw [← ht]; exact ct
        have ck' : wr.cell? ⟨b, off + k * 2, none⟩ = some (.int .i64 kk) := by rw [← hkk]; exact ck
        rw [ht] at hRk
        clear ct ck
        have hk100 : k + 1 ≤ 100 := by have := hR.out.1; omega
        obtain ⟨⟨ra, sc', dy', td', st', nx', pr'⟩, hr⟩ : ∃ r, doH ⟨{ data := #[97, 64, 120] }, sc, dy, td, st, nx, pr⟩ kk t = r := ⟨_, rfl⟩
        obtain ⟨q, hq⟩ : ∃ q, doP ⟨{ data := #[97, 64, 120] }, sc, dy, td, st, nx, pr⟩ kk t = q := ⟨_, rfl⟩
        have hok := hinv_ok hI.out.1 (by omega) hRk.1 hRk.2
        have hI2 : HInv ⟨ra, sc', dy', td', st', nx', pr'⟩ (k + 1) := by rw [← hr]; exact hinv_do hI.out.1 hRk.1 hRk.2
        have hP2 : HP ⟨ra, sc', dy', td', st', nx', pr'⟩ := by rw [← hr]; exact hp_do hI.out.2
        have hra : ra = { data := #[97, 64, 120] } := hI2.1
        subst hra
        have hpr0 : 0 ≤ pr := hI.out.1.2.2.2.2.2.2.2.1
        have hpr1 : pr ≤ 1000 := by have : pr ≤ (k : Int) := hI.out.1.2.2.2.2.2.2.2.2; omega
        have hpr2 : -1 ≤ pr := by omega
        have hpr3 : pr' ≤ 1000 := by have : pr' ≤ ((k + 1 : Nat) : Int) := hI2.2.2.2.2.2.2.2.2; omega
        have hst := step_do ⟨{ data := #[97, 64, 120] }, sc, dy, td, st, nx, pr⟩ kk t
        rw [hr, hq] at hst
        have hnew : kk = 6 → (⟨{ data := #[97, 64, 120] }, sc', dy', td', st', nx', pr'⟩ : H) = ⟨{ data := #[97, 64, 120] }, 0, -1, 0, 0, 0, 0⟩ ∧ q = false := by
          intro h6
          rw [← hr, ← hq, h6]
          exact ⟨rfl, rfl⟩
        have hI3 : Hid (HInv ⟨{ data := #[97, 64, 120] }, sc', dy', td', st', nx', pr'⟩ (k + 1) ∧ HP ⟨{ data := #[97, 64, 120] }, sc', dy', td', st', nx', pr'⟩) := ⟨hI2, hP2⟩
        have hstep := fun h6 => hst h6 hI.out.2 hpr0
        clear hst hI2 hP2
        replace hnew := Lib.hid hnew
        replace hstep := Lib.hid hstep
        replace hr := Lib.hid hr
        replace hq := Lib.hid hq
        replace hok := Lib.hid hok
        replace ht := Lib.hid ht
        replace hkk := Lib.hid hkk
        go_wp2_with fail
        go_region_with (first | (go_at_call 11; refine (do_at { data := #[97, 64, 120] } sc dy td st nx pr sc' dy' td' st' nx' pr' kk t q _ hok.out hpr2 hpr1 hr.out hq.out).mono ?_; rintro e w3 ⟨rfl, hb3⟩; have xc00 : w3.cell? ⟨w2.heap.size, 0, none⟩ = some (.string { data := #[97, 64, 120] }) := bget hb3 (by go_size) (by go_cell); have xf00 : w3.frozen? ⟨w2.heap.size, 0, none⟩ = false := bfrz hb3 (by go_size) (by first | (with_reducible assumption) | (go_simp; done) | (simp [*]; done)); have xc01 : w3.cell? ⟨w2.heap.size, 1, none⟩ = some (.int .i64 sc) := bget hb3 (by go_size) (by go_cell); have xf01 : w3.frozen? ⟨w2.heap.size, 1, none⟩ = false := bfrz hb3 (by go_size) (by first | (with_reducible assumption) | (go_simp; done) | (simp [*]; done)); have xc02 : w3.cell? ⟨w2.heap.size, 2, none⟩ = some (.int .i64 dy) := bget hb3 (by go_size) (by go_cell); have xf02 : w3.frozen? ⟨w2.heap.size, 2, none⟩ = false := bfrz hb3 (by go_size) (by first | (with_reducible assumption) | (go_simp; done) | (simp [*]; done)); have xc03 : w3.cell? ⟨w2.heap.size, 3, none⟩ = some (.int .i64 td) := bget hb3 (by go_size) (by go_cell); have xf03 : w3.frozen? ⟨w2.heap.size, 3, none⟩ = false := bfrz hb3 (by go_size) (by first | (with_reducible assumption) | (go_simp; done) | (simp [*]; done)); have xc04 : w3.cell? ⟨w2.heap.size, 4, none⟩ = some (.int .i64 st) := bget hb3 (by go_size) (by go_cell); have xf04 : w3.frozen? ⟨w2.heap.size, 4, none⟩ = false := bfrz hb3 (by go_size) (by first | (with_reducible assumption) | (go_simp; done) | (simp [*]; done)); have xc05 : w3.cell? ⟨w2.heap.size, 5, none⟩ = some (.int .i64 nx) := bget hb3 (by go_size) (by go_cell); have xf05 : w3.frozen? ⟨w2.heap.size, 5, none⟩ = false := bfrz hb3 (by go_size) (by first | (with_reducible assumption) | (go_simp; done) | (simp [*]; done)); have xc06 : w3.cell? ⟨w2.heap.size, 6, none⟩ = some (.int .i64 pr) := bget hb3 (by go_size) (by go_cell); have xf06 : w3.frozen? ⟨w2.heap.size, 6, none⟩ = false := bfrz hb3 (by go_size) (by first | (with_reducible assumption) | (go_simp; done) | (simp [*]; done)); have xz0 : w2.heap.size < w3.heap.size := bsize hb3 (by go_size); have yc00 : w3.cell? ⟨wr.heap.size, 0, none⟩ = some (.string { data := #[97, 64, 120] }) := bget hb3 (by go_size) (by go_cell); have yf00 : w3.frozen? ⟨wr.heap.size, 0, none⟩ = false := bfrz hb3 (by go_size) (by first | (with_reducible assumption) | (go_simp; done) | (simp [*]; done)); have yc01 : w3.cell? ⟨wr.heap.size, 1, none⟩ = some (.int .i64 sc) := bget hb3 (by go_size) (by go_cell); have yf01 : w3.frozen? ⟨wr.heap.size, 1, none⟩ = false := bfrz hb3 (by go_size) (by first | (with_reducible assumption) | (go_simp; done) | (simp [*]; done)); have yc02 : w3.cell? ⟨wr.heap.size, 2, none⟩ = some (.int .i64 dy) := bget hb3 (by go_size) (by go_cell); have yf02 : w3.frozen? ⟨wr.heap.size, 2, none⟩ = false := bfrz hb3 (by go_size) (by first | (with_reducible assumption) | (go_simp; done) | (simp [*]; done)); have yc03 : w3.cell? ⟨wr.heap.size, 3, none⟩ = some (.int .i64 td) := bget hb3 (by go_size) (by go_cell); have yf03 : w3.frozen? ⟨wr.heap.size, 3, none⟩ = false := bfrz hb3 (by go_size) (by first | (with_reducible assumption) | (go_simp; done) | (simp [*]; done)); have yc04 : w3.cell? ⟨wr.heap.size, 4, none⟩ = some (.int .i64 st) := bget hb3 (by go_size) (by go_cell); have yf04 : w3.frozen? ⟨wr.heap.size, 4, none⟩ = false := bfrz hb3 (by go_size) (by first | (with_reducible assumption) | (go_simp; done) | (simp [*]; done)); have yc05 : w3.cell? ⟨wr.heap.size, 5, none⟩ = some (.int .i64 nx) := bget hb3 (by go_size) (by go_cell); have yf05 : w3.frozen? ⟨wr.heap.size, 5, none⟩ = false := bfrz hb3 (by go_size) (by first | (with_reducible assumption) | (go_simp; done) | (simp [*]; done)); have yc06 : w3.cell? ⟨wr.heap.size, 6, none⟩ = some (.int .i64 pr) := bget hb3 (by go_size) (by go_cell); have yf06 : w3.frozen? ⟨wr.heap.size, 6, none⟩ = false := bfrz hb3 (by go_size) (by first | (with_reducible assumption) | (go_simp; done) | (simp [*]; done)); have yz0 : wr.heap.size < w3.heap.size := bsize hb3 (by go_size); have ek : w3.cell? ⟨b, off + k * 2, none⟩ = some (.int .i64 kk) := bget hb3 (by go_size) (by go_cell); have et : w3.cell? ⟨b, off + k * 2 + 1, none⟩ = some (.int .i64 t) := bget hb3 (by go_size) (by go_cell); have hb3z := hb3.size; have hbw3 : b < w3.heap.size := bsize hb3 (by go_size)))
        all_goals
          go_upto_region 12 with (fail)
          refine wp_named fun W hW => ?_
          have pc0 : W.cell? ⟨w2.heap.size, 0, none⟩ = some (.string { data := #[97, 64, 120] }) := by rw [← hW]; clear hW; go_cell
          have pf0 : W.frozen? ⟨w2.heap.size, 0, none⟩ = false := by rw [← hW]; clear hW; first | (with_reducible assumption) | (go_simp; done) | (simp [*]; done)
          have pw0 : W.cell? ⟨wr.heap.size, 0, none⟩ = some (.string { data := #[97, 64, 120] }) := by rw [← hW]; clear hW; go_cell
          have pc1 : W.cell? ⟨w2.heap.size, 1, none⟩ = some (.int .i64 sc') := by rw [← hW]; clear hW; go_cell
          have pf1 : W.frozen? ⟨w2.heap.size, 1, none⟩ = false := by rw [← hW]; clear hW; first | (with_reducible assumption) | (go_simp; done) | (simp [*]; done)
          have pw1 : W.cell? ⟨wr.heap.size, 1, none⟩ = some (.int .i64 sc) := by rw [← hW]; clear hW; go_cell
          have pc2 : W.cell? ⟨w2.heap.size, 2, none⟩ = some (.int .i64 dy') := by rw [← hW]; clear hW; go_cell
          have pf2 : W.frozen? ⟨w2.heap.size, 2, none⟩ = false := by rw [← hW]; clear hW; first | (with_reducible assumption) | (go_simp; done) | (simp [*]; done)
          have pw2 : W.cell? ⟨wr.heap.size, 2, none⟩ = some (.int .i64 dy) := by rw [← hW]; clear hW; go_cell
          have pc3 : W.cell? ⟨w2.heap.size, 3, none⟩ = some (.int .i64 td') := by rw [← hW]; clear hW; go_cell
          have pf3 : W.frozen? ⟨w2.heap.size, 3, none⟩ = false := by rw [← hW]; clear hW; first | (with_reducible assumption) | (go_simp; done) | (simp [*]; done)
          have pw3 : W.cell? ⟨wr.heap.size, 3, none⟩ = some (.int .i64 td) := by rw [← hW]; clear hW; go_cell
          have pc4 : W.cell? ⟨w2.heap.size, 4, none⟩ = some (.int .i64 st') := by rw [← hW]; clear hW; go_cell
          have pf4 : W.frozen? ⟨w2.heap.size, 4, none⟩ = false := by rw [← hW]; clear hW; first | (with_reducible assumption) | (go_simp; done) | (simp [*]; done)
          have pw4 : W.cell? ⟨wr.heap.size, 4, none⟩ = some (.int .i64 st) := by rw [← hW]; clear hW; go_cell
          have pc5 : W.cell? ⟨w2.heap.size, 5, none⟩ = some (.int .i64 nx') := by rw [← hW]; clear hW; go_cell
          have pf5 : W.frozen? ⟨w2.heap.size, 5, none⟩ = false := by rw [← hW]; clear hW; first | (with_reducible assumption) | (go_simp; done) | (simp [*]; done)
          have pw5 : W.cell? ⟨wr.heap.size, 5, none⟩ = some (.int .i64 nx) := by rw [← hW]; clear hW; go_cell
          have pc6 : W.cell? ⟨w2.heap.size, 6, none⟩ = some (.int .i64 pr') := by rw [← hW]; clear hW; go_cell
          have pf6 : W.frozen? ⟨w2.heap.size, 6, none⟩ = false := by rw [← hW]; clear hW; first | (with_reducible assumption) | (go_simp; done) | (simp [*]; done)
          have pw6 : W.cell? ⟨wr.heap.size, 6, none⟩ = some (.int .i64 pr) := by rw [← hW]; clear hW; go_cell
          have pz : w2.heap.size < W.heap.size := by rw [← hW]; clear hW; go_size
          have pz2 : wr.heap.size < W.heap.size := by rw [← hW]; clear hW; go_size
          have pe : W.cell? ⟨b, off + k * 2, none⟩ = some (.int .i64 kk) := by rw [← hW]; clear hW; go_cell
          have pt : W.cell? ⟨b, off + k * 2 + 1, none⟩ = some (.int .i64 t) := by rw [← hW]; clear hW; go_cell
          have pbz : b < W.heap.size := by rw [← hW]; clear hW; go_size
          have pB : Below w2.heap.size w2 W := by
            rw [← hW]; clear hW
            repeat (first | with_reducible exact Below.refl _ _ | with_reducible assumption | (with_reducible refine balloc ?_) | (with_reducible refine bdrew ?_) | (with_reducible refine bdrewN ?_) | (with_reducible refine bset ?_ (by first | omega | (simp; done) | (simp; omega))) | (with_reducible refine bnext ?_ (by assumption)))
          clear hW xc00 xf00 yc00 yf00 xc01 xf01 yc01 yf01 xc02 xf02 yc02 yf02 xc03 xf03 yc03 yf03 xc04 xf04 yc04 yf04 xc05 xf05 yc05 yf05 xc06 xf06 yc06 yf06 rc0 rf0 rc1 rf1 rc2 rf2 rc3 rf3 rc4 rf4 rc5 rf5 rc6 rf6 ek et ct' ck'
          by_cases h6 : kk = 6
          · have hn := hnew.out h6
            simp only [H.mk.injEq] at hn
            obtain ⟨⟨_, rfl, rfl, rfl, rfl, rfl, rfl⟩, rfl⟩ := hn
            have h6' : (kk == 6) = true := by simp [h6]
            clear h6 hnew hstep hr hq
            go_upto_region 15 with (fail)
            refine wp_named fun W2 hW2 => ?_
            subst hW2
            have s0 := sget (W := W) (b := w2.heap.size) (o := 0) pz pc0
            have s1 := sget (W := W) (b := w2.heap.size) (o := 1) pz pc1
            have s2 := sget (W := W) (b := w2.heap.size) (o := 2) pz pc2
            have s3 := sget (W := W) (b := w2.heap.size) (o := 3) pz pc3
            have s4 := sget (W := W) (b := w2.heap.size) (o := 4) pz pc4
            have s5 := sget (W := W) (b := w2.heap.size) (o := 5) pz pc5
            have s6 := sget (W := W) (b := w2.heap.size) (o := 6) pz pc6
            refine wp_region_bel (by kernel_rfl) (by kernel_rfl) ?_
            repeat (go_big_quiet_step (first | (go_at_call 10; exact Calls.bel_of (New_any _ _))))
            refine wpQuiet_nil ?_
            rintro _ ⟨⟨W3, hW3⟩, rfl⟩
            go_wp2_with fail
            go_roundw
            case rel => exact ⟨k + 1, ⟨{ data := #[97, 64, 120] }, 0, -1, 0, 0, 0, 0⟩, by omega, by go_num, hI3, bget hW3 pz pc0, bget hW3 pz pc1, bget hW3 pz pc2, bget hW3 pz pc3, bget hW3 pz pc4, bget hW3 pz pc5, bget hW3 pz pc6, bfrz hW3 pz pf0, bfrz hW3 pz pf1, bfrz hW3 pz pf2, bfrz hW3 pz pf3, bfrz hW3 pz pf4, bfrz hW3 pz pf5, bfrz hW3 pz pf6, bsize hW3 pz, pB.trans (hW3.mono pB.size)⟩
            case measure => simp [intOf]; omega
          · have h6' : (kk == 6) = false := by simp [h6]
            have hs := hstep.out h6
            clear hnew hstep hr hq
            rcases hs with ⟨e1, e2, e3⟩ | ⟨e1, e2, e3⟩ | ⟨e1, e2, e4, e3⟩ | ⟨e1, e2, e4, e5, e3⟩ | ⟨e1, e2, e3⟩ | ⟨e1, e2, e4, e5, e3⟩ | ⟨e1, e2, e4, e5, e6, e3⟩ | ⟨e1, e2, e4, e3⟩
            · dsimp only at e1 e2 e3
              subst e1 e3
              simp only [H.mk.injEq] at e2
              obtain ⟨_, rfl, rfl, rfl, rfl, rfl, rfl⟩ := e2
              clear h6
              go_wp2_with fail
              go_quiet (fail)
              go_wp2_with fail
              go_roundw
              case rel => exact ⟨k + 1, ⟨{ data := #[97, 64, 120] }, _, _, _, _, _, _⟩, by omega, by go_num, hI3, by simpa using pc0, by simpa using pc1, by simpa using pc2, by simpa using pc3, by simpa using pc4, by simpa using pc5, by simpa using pc6, by simpa using pf0, by simpa using pf1, by simpa using pf2, by simpa using pf3, by simpa using pf4, by simpa using pf5, by simpa using pf6, by simpa using pz, ⟨pB.os, pB.tape, pB.output, pB.size, pB.block⟩⟩
              case measure => simp [intOf]; omega
            · dsimp only at e1 e2 e3
              subst e1 e2 e3
              clear h6
              go_wp2_with fail
              go_quiet (fail)
              go_wp2_with fail
              go_roundw
              case rel => exact ⟨k + 1, ⟨{ data := #[97, 64, 120] }, _, _, _, _, _, _⟩, by omega, by go_num, hI3, by simpa using pc0, by simpa using pc1, by simpa using pc2, by simpa using pc3, by simpa using pc4, by simpa using pc5, by simpa using pc6, by simpa using pf0, by simpa using pf1, by simpa using pf2, by simpa using pf3, by simpa using pf4, by simpa using pf5, by simpa using pf6, by simpa using pz, ⟨pB.os, pB.tape, pB.output, pB.size, pB.block⟩⟩
              case measure => simp [intOf]; omega
            · dsimp only at e1 e2 e3 e4
              subst e4 e3
              have g1 : (st' == 3) = false := by simp [e1]
              have g2 : (st' == 1) = false := by simp [e2]
              clear e1 e2
              clear h6
              go_wp2_with fail
              go_quiet (fail)
              go_wp2_with fail
              go_roundw
              case rel => exact ⟨k + 1, ⟨{ data := #[97, 64, 120] }, _, _, _, _, _, _⟩, by omega, by go_num, hI3, by simpa using pc0, by simpa using pc1, by simpa using pc2, by simpa using pc3, by simpa using pc4, by simpa using pc5, by simpa using pc6, by simpa using pf0, by simpa using pf1, by simpa using pf2, by simpa using pf3, by simpa using pf4, by simpa using pf5, by simpa using pf6, by simpa using pz, ⟨pB.os, pB.tape, pB.output, pB.size, pB.block⟩⟩
              case measure => simp [intOf]; omega
            · dsimp only at e1 e2 e3 e4 e5
              subst e1 e2 e3 e5
              clear h6
              go_wp2_with fail
              go_quiet (fail)
              go_wp2_with fail
              go_roundw
              case rel => exact ⟨k + 1, ⟨{ data := #[97, 64, 120] }, _, _, _, _, _, _⟩, by omega, by go_num, hI3, by simpa using pc0, by simpa using pc1, by simpa using pc2, by simpa using pc3, by simpa using pc4, by simpa using pc5, by simpa using pc6, by simpa using pf0, by simpa using pf1, by simpa using pf2, by simpa using pf3, by simpa using pf4, by simpa using pf5, by simpa using pf6, by simpa using pz, ⟨pB.os, pB.tape, pB.output, pB.size, pB.block⟩⟩
              case measure => simp [intOf]; omega
            · dsimp only at e1 e2 e3
              subst e1 e2 e3
              clear h6
              go_wp2_with fail
              go_quiet (fail)
              go_wp2_with fail
              go_roundw
              case rel => exact ⟨k + 1, ⟨{ data := #[97, 64, 120] }, _, _, _, _, _, _⟩, by omega, by go_num, hI3, by simpa using pc0, by simpa using pc1, by simpa using pc2, by simpa using pc3, by simpa using pc4, by simpa using pc5, by simpa using pc6, by simpa using pf0, by simpa using pf1, by simpa using pf2, by simpa using pf3, by simpa using pf4, by simpa using pf5, by simpa using pf6, by simpa using pz, ⟨pB.os, pB.tape, pB.output, pB.size, pB.block⟩⟩
              case measure => simp [intOf]; omega
            · dsimp only at e1 e2 e3 e4 e5
              subst e1 e2 e3 e5
              have g1 : (kk == 5) = true := by simp [e4]
              clear e4
              clear h6
              go_wp2_with fail
              go_quiet (fail)
              go_wp2_with fail
              go_roundw
              case rel => exact ⟨k + 1, ⟨{ data := #[97, 64, 120] }, _, _, _, _, _, _⟩, by omega, by go_num, hI3, by simpa using pc0, by simpa using pc1, by simpa using pc2, by simpa using pc3, by simpa using pc4, by simpa using pc5, by simpa using pc6, by simpa using pf0, by simpa using pf1, by simpa using pf2, by simpa using pf3, by simpa using pf4, by simpa using pf5, by simpa using pf6, by simpa using pz, ⟨pB.os, pB.tape, pB.output, pB.size, pB.block⟩⟩
              case measure => simp [intOf]; omega
            · dsimp only at e1 e2 e3 e4 e5 e6
              subst e1 e2 e3 e4
              clear h6
              go_wp2_with fail
              go_quiet (fail)
              go_wp2_with fail
              go_roundw
              case rel => exact ⟨k + 1, ⟨{ data := #[97, 64, 120] }, _, _, _, _, _, _⟩, by omega, by go_num, hI3, by simpa using pc0, by simpa using pc1, by simpa using pc2, by simpa using pc3, by simpa using pc4, by simpa using pc5, by simpa using pc6, by simpa using pf0, by simpa using pf1, by simpa using pf2, by simpa using pf3, by simpa using pf4, by simpa using pf5, by simpa using pf6, by simpa using pz, ⟨pB.os, pB.tape, pB.output, pB.size, pB.block⟩⟩
              case measure => simp [intOf]; omega
            · dsimp only at e1 e2 e3 e4
              subst e1 e2 e3 e4
              clear h6
              go_wp2_with fail
              go_quiet (fail)
              go_wp2_with fail
              go_roundw
              case rel => exact ⟨k + 1, ⟨{ data := #[97, 64, 120] }, _, _, _, _, _, _⟩, by omega, by go_num, hI3, by simpa using pc0, by simpa using pc1, by simpa using pc2, by simpa using pc3, by simpa using pc4, by simpa using pc5, by simpa using pc6, by simpa using pf0, by simpa using pf1, by simpa using pf2, by simpa using pf3, by simpa using pf4, by simpa using pf5, by simpa using pf6, by simpa using pz, ⟨pB.os, pB.tape, pB.output, pB.size, pB.block⟩⟩
              case measure => simp [intOf]; omega
      · go_wp2_with fail
        go_ret
        refine ⟨rfl, ?_⟩
        have hBr : Below w.heap.size w wr := hB2.trans (rB.mono hsz)
        exact hBr
end Go.Proofs.Ytnbfmmnbjjeecac

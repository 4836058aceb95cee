/- missivelaw40.ScoreBounds: it returns true. -/
import Derived.Test.YtnbfmmnbjjeecacBoundsLaw
import Derived.Test.YtnbfmmnbjjeecacTail
import Derived.Deep.Cut
import Derived.Test.YtnbfmmnbjjeecacStates
namespace Go.Proofs.Ytnbfmmnbjjeecac
open Go.RowKit
set_option linter.unusedVariables false
theorem fresh_ne {W : World} {base : Nat} {e : TypeId} {n : Nat} {v v2 v' : Value} {xs : List Value} (h : W.ownsRow base e 1 v n xs) (hd : v.ownBlock = none ∨ v.ownBlock ≠ v2.ownBlock) (ho : v'.ownBlock = v2.ownBlock ∨ ∃ g, v'.ownBlock = some g ∧ W.heap.size ≤ g) : v.ownBlock = none ∨ v.ownBlock ≠ v'.ownBlock := by
  rcases ho with ho | ⟨g, ho, hg⟩
  · rw [ho]; exact hd
  · right; rw [ho]; intro hh; have := (h.lt g hh).2; omega
theorem swap_ne {v v2 : Value} (hd : v.ownBlock = none ∨ v.ownBlock ≠ v2.ownBlock) : v2.ownBlock = none ∨ v2.ownBlock ≠ v.ownBlock := by
  cases h : v2.ownBlock with
  | none => exact .inl rfl
  | some g =>
    right; intro hh
    rcases hd with hd | hd
    · rw [hd] at hh; cases hh
    · exact hd (by rw [h]; exact hh.symm)
theorem fresh_ne' {W : World} {base : Nat} {e : TypeId} {n : Nat} {v v2 v' : Value} {xs : List Value} (h : W.ownsRow base e 1 v2 n xs) (hd : v.ownBlock = none ∨ v.ownBlock ≠ v2.ownBlock) (ho : v'.ownBlock = v.ownBlock ∨ ∃ g, v'.ownBlock = some g ∧ W.heap.size ≤ g) : v'.ownBlock = none ∨ v'.ownBlock ≠ v2.ownBlock :=
  swap_ne (fresh_ne h (swap_ne hd) ho)
theorem addL_len (l : List Int) (d : Int) : (addL l d).length ≤ l.length + 1 := by unfold addL; split <;> simp
set_option maxRecDepth 100000 in
set_option maxHeartbeats 8000000 in
theorem bounds_walk (a : Option Addr) (len cap : Nat) (l : List (Int × Int)) (w : World) (hp : IsPairs w a len cap l) :
    Calls Try.prog 4 #[.slice a len cap] w fun e w' => e = .returned (.bool true) ∧ Bel w w' := by
  have hlen := hp.1
  have hmax := hp.2.1
  unfold maxLen at hmax
  go_enter Try.func4, Try.ntmps4
  go_wp2_with fail
  refine (small_any _).mono ?_
  rintro e w1 ⟨rfl, hb1⟩
  have hp1 := hp.below hb1
  go_wp2_with fail
  refine (right_any a len cap l _ hp1).mono ?_
  rintro e w1' ⟨q, rfl, hq, rfl⟩
  cases q
  · go_wp2_with fail
    go_ret
    exact ⟨rfl, hb1⟩
  · have hR := hq rfl
    clear hq
    replace hR := Lib.hid hR
    go_wp2_with fail
    refine (New_any { data := #[97, 64, 120] } _).mono ?_
    rintro e w2 ⟨rfl, hb2⟩
    have hB2 : Below w.heap.size w w2 := hb1.trans (hb2.mono hb1.size)
    have hp2 := hp.below hB2
    have hsz : w.heap.size ≤ w2.heap.size := hB2.size
    go_wp2_with fail
    go_loopw [6, 7, 8] (fun hv sv i wr => ∃ (k : Nat) (h : H) (hard soft : List Int) (u : Int), k ≤ len ∧ i = .int .i64 k ∧ Hid (HInv h k ∧ BInv h hard soft u ∧ 0 ≤ u ∧ ∀ j, k ≤ j → j < len → u ≤ tm l j) ∧ hard.length ≤ k ∧ soft.length ≤ k ∧
        wr.ownsRow (w2.heap.size + 1) 3 1 hv hard.length (cells64 hard) ∧ wr.ownsRow (w2.heap.size + 1) 3 1 sv soft.length (cells64 soft) ∧ (hv.ownBlock = none ∨ hv.ownBlock ≠ sv.ownBlock) ∧
        wr.cell? ⟨w2.heap.size, 0, none⟩ = some (.string h.a) ∧ wr.cell? ⟨w2.heap.size, 1, none⟩ = some (.int .i64 h.sc) ∧ wr.cell? ⟨w2.heap.size, 2, none⟩ = some (.int .i64 h.dy) ∧ wr.cell? ⟨w2.heap.size, 3, none⟩ = some (.int .i64 h.td) ∧ wr.cell? ⟨w2.heap.size, 4, none⟩ = some (.int .i64 h.st) ∧ wr.cell? ⟨w2.heap.size, 5, none⟩ = some (.int .i64 h.nx) ∧ wr.cell? ⟨w2.heap.size, 6, none⟩ = some (.int .i64 h.pr) ∧ wr.frozen? ⟨w2.heap.size, 0, none⟩ = false ∧ wr.frozen? ⟨w2.heap.size, 1, none⟩ = false ∧ wr.frozen? ⟨w2.heap.size, 2, none⟩ = false ∧ wr.frozen? ⟨w2.heap.size, 3, none⟩ = false ∧ wr.frozen? ⟨w2.heap.size, 4, none⟩ = false ∧ wr.frozen? ⟨w2.heap.size, 5, none⟩ = false ∧ wr.frozen? ⟨w2.heap.size, 6, none⟩ = false ∧ w2.heap.size < wr.heap.size ∧ Below w2.heap.size w2 wr)
      (fun _ _ i _ => len - (intOf i).toNat)
    case atStart => exact ⟨0, ⟨{ data := #[97, 64, 120] }, 0, -1, 0, 0, 0, 0⟩, [], [], 0, Nat.zero_le _, rfl, ⟨hinv_new, binv_new, Int.le_refl _, fun j _ hj => (hR.out.2.1 j (by omega)).1⟩, Nat.le_refl _, Nat.le_refl _, World.ownsRow_nil _ _ _ _, World.ownsRow_nil _ _ _ _, .inl rfl, by go_cell, by go_cell, by go_cell, by go_cell, by go_cell, by go_cell, by go_cell, by first | (with_reducible assumption) | (go_simp; done) | (simp [*]; done), by first | (with_reducible assumption) | (go_simp; done) | (simp [*]; done), by first | (with_reducible assumption) | (go_simp; done) | (simp [*]; done), by first | (with_reducible assumption) | (go_simp; done) | (simp [*]; done), by first | (with_reducible assumption) | (go_simp; done) | (simp [*]; done), by first | (with_reducible assumption) | (go_simp; done) | (simp [*]; done), by first | (with_reducible assumption) | (go_simp; done) | (simp [*]; done), by go_size, (Below.refl _ _).alloc (Nat.le_refl _) _⟩
    case round =>
      obtain ⟨k, ⟨ha, sc, dy, td, st, nx, pr⟩, hard, soft, u, hk, rfl, hI, hhk, hsk, rh, rs, rd, rc0, rc1, rc2, rc3, rc4, rc5, rc6, rf0, rf1, rf2, rf3, rf4, rf5, rf6, rz, rB⟩ := hrel
      have hha : ha = { data := #[97, 64, 120] } := hI.out.1.1
      subst hha
      dsimp only at rc0 rc1 rc2 rc3 rc4 rc5 rc6
      by_cases hkl : k < len
      · obtain ⟨_, _, hc⟩ := hp
        rcases hc with hc | ⟨b, off, rfl, hblt, hc⟩
        · omega
        obtain ⟨ck0, ct0, _, _⟩ := hc k hkl
        have ck := (rB.cell (p := ⟨b, off + k * 2, none⟩) (by show b < _; omega)).trans ((hB2.cell (p := ⟨b, off + k * 2, none⟩) hblt).trans ck0)
        have ct := (rB.cell (p := ⟨b, off + (k * 2 + 1), none⟩) (by show b < _; omega)).trans ((hB2.cell (p := ⟨b, off + (k * 2 + 1), none⟩) hblt).trans ct0)
        have hbr : b < wr.heap.size := by omega
        clear hc ck0 ct0
        have hRk := hR.out.2.1 k (by omega)
        have hut : u ≤ tm l k := hI.out.2.2.2 k (Nat.le_refl _) hkl
        have hasc : ∀ j, k + 1 ≤ j → j < len → tm l k ≤ tm l j := fun j h5 h6 => hR.out.2.2 k j (by omega) (by omega)
        obtain ⟨t, ht⟩ : ∃ t, tm l k = t := ⟨_, rfl⟩
        obtain ⟨kk, hkk⟩ : ∃ t, kd l k = t := ⟨_, rfl⟩
        have ct' : wr.cell? ⟨b, off + k * 2 + 1, none⟩ = some (.int .i64 t) := by rw [← ht]; exact ct
        have ck' : wr.cell? ⟨b, off + k * 2, none⟩ = some (.int .i64 kk) := by rw [← hkk]; exact ck
        rw [ht] at hRk hut hasc
        clear ct ck
        replace hasc := Lib.hid hasc
        have hk100 : k + 1 ≤ 100 := by have := hR.out.1; omega
        obtain ⟨⟨ra, sc', dy', td', st', nx', pr'⟩, hr⟩ : ∃ r, doH ⟨{ data := #[97, 64, 120] }, sc, dy, td, st, nx, pr⟩ kk t = r := ⟨_, rfl⟩
        obtain ⟨q, hq⟩ : ∃ q, doP ⟨{ data := #[97, 64, 120] }, sc, dy, td, st, nx, pr⟩ kk t = q := ⟨_, rfl⟩
        have hok := hinv_ok hI.out.1 (by omega) hRk.1 hRk.2
        have hI2 : HInv ⟨ra, sc', dy', td', st', nx', pr'⟩ (k + 1) := by rw [← hr]; exact hinv_do hI.out.1 hRk.1 hRk.2
        have hbd : ∀ hs ss, BInv ⟨{ data := #[97, 64, 120] }, sc, dy, td, st, nx, pr⟩ hs ss t → (kk = 0 → 250 ≤ wt hs ss (t / 86400000)) → (kk = 1 ∨ kk = 3 ∨ kk = 4 → 1000 ≤ wt hs ss (t / 86400000)) → BInv ⟨ra, sc', dy', td', st', nx', pr'⟩ hs ss t := by
          intro hs ss g1 g2 g3
          rw [← hr]; exact binv_do g1 hRk.1 g2 g3
        have hra : ra = { data := #[97, 64, 120] } := hI2.1
        subst hra
        have hpr0 : 0 ≤ pr := hI.out.1.2.2.2.2.2.2.2.1
        have hpr1 : pr ≤ 1000 := by have : pr ≤ (k : Int) := hI.out.1.2.2.2.2.2.2.2.2; omega
        have hpr2 : -1 ≤ pr := by omega
        have hscb : sc' ≤ 200000 := by have : sc' ≤ 1000 * ((k + 1 : Nat) : Int) := hI2.2.2.1; omega
        have hsc0 : 0 ≤ sc' := hI2.2.1
        replace hI2 := Lib.hid hI2
        replace hbd := Lib.hid hbd
        replace hr := Lib.hid hr
        replace hq := Lib.hid hq
        replace hok := Lib.hid hok
        replace ht := Lib.hid ht
        replace hkk := Lib.hid hkk
        go_wp2_with fail
        go_region_with (first | (go_at_call 11; refine (do_at { data := #[97, 64, 120] } sc dy td st nx pr sc' dy' td' st' nx' pr' kk t q _ hok.out hpr2 hpr1 hr.out hq.out).mono ?_; rintro e w3 ⟨rfl, hb3⟩; have xc00 : w3.cell? ⟨w2.heap.size, 0, none⟩ = some (.string { data := #[97, 64, 120] }) := bget hb3 (by go_size) (by go_cell); have xf00 : w3.frozen? ⟨w2.heap.size, 0, none⟩ = false := bfrz hb3 (by go_size) (by first | (with_reducible assumption) | (go_simp; done) | (simp [*]; done)); have xc01 : w3.cell? ⟨w2.heap.size, 1, none⟩ = some (.int .i64 sc) := bget hb3 (by go_size) (by go_cell); have xf01 : w3.frozen? ⟨w2.heap.size, 1, none⟩ = false := bfrz hb3 (by go_size) (by first | (with_reducible assumption) | (go_simp; done) | (simp [*]; done)); have xc02 : w3.cell? ⟨w2.heap.size, 2, none⟩ = some (.int .i64 dy) := bget hb3 (by go_size) (by go_cell); have xf02 : w3.frozen? ⟨w2.heap.size, 2, none⟩ = false := bfrz hb3 (by go_size) (by first | (with_reducible assumption) | (go_simp; done) | (simp [*]; done)); have xc03 : w3.cell? ⟨w2.heap.size, 3, none⟩ = some (.int .i64 td) := bget hb3 (by go_size) (by go_cell); have xf03 : w3.frozen? ⟨w2.heap.size, 3, none⟩ = false := bfrz hb3 (by go_size) (by first | (with_reducible assumption) | (go_simp; done) | (simp [*]; done)); have xc04 : w3.cell? ⟨w2.heap.size, 4, none⟩ = some (.int .i64 st) := bget hb3 (by go_size) (by go_cell); have xf04 : w3.frozen? ⟨w2.heap.size, 4, none⟩ = false := bfrz hb3 (by go_size) (by first | (with_reducible assumption) | (go_simp; done) | (simp [*]; done)); have xc05 : w3.cell? ⟨w2.heap.size, 5, none⟩ = some (.int .i64 nx) := bget hb3 (by go_size) (by go_cell); have xf05 : w3.frozen? ⟨w2.heap.size, 5, none⟩ = false := bfrz hb3 (by go_size) (by first | (with_reducible assumption) | (go_simp; done) | (simp [*]; done)); have xc06 : w3.cell? ⟨w2.heap.size, 6, none⟩ = some (.int .i64 pr) := bget hb3 (by go_size) (by go_cell); have xf06 : w3.frozen? ⟨w2.heap.size, 6, none⟩ = false := bfrz hb3 (by go_size) (by first | (with_reducible assumption) | (go_simp; done) | (simp [*]; done)); have xz0 : w2.heap.size < w3.heap.size := bsize hb3 (by go_size); have ek : w3.cell? ⟨b, off + k * 2, none⟩ = some (.int .i64 kk) := bget hb3 (by go_size) (by go_cell); have et : w3.cell? ⟨b, off + k * 2 + 1, none⟩ = some (.int .i64 t) := bget hb3 (by go_size) (by go_cell); have hb3z := hb3.size; have hbw3 : b < w3.heap.size := bsize hb3 (by go_size)))
        all_goals
          go_upto_region 12 with (fail)
          refine wp_named fun W hW => ?_
          have pc0 : W.cell? ⟨w2.heap.size, 0, none⟩ = some (.string { data := #[97, 64, 120] }) := by rw [← hW]; clear hW; go_cell
          have pf0 : W.frozen? ⟨w2.heap.size, 0, none⟩ = false := by rw [← hW]; clear hW; first | (with_reducible assumption) | (go_simp; done) | (simp [*]; done)
          have pc1 : W.cell? ⟨w2.heap.size, 1, none⟩ = some (.int .i64 sc') := by rw [← hW]; clear hW; go_cell
          have pf1 : W.frozen? ⟨w2.heap.size, 1, none⟩ = false := by rw [← hW]; clear hW; first | (with_reducible assumption) | (go_simp; done) | (simp [*]; done)
          have pc2 : W.cell? ⟨w2.heap.size, 2, none⟩ = some (.int .i64 dy') := by rw [← hW]; clear hW; go_cell
          have pf2 : W.frozen? ⟨w2.heap.size, 2, none⟩ = false := by rw [← hW]; clear hW; first | (with_reducible assumption) | (go_simp; done) | (simp [*]; done)
          have pc3 : W.cell? ⟨w2.heap.size, 3, none⟩ = some (.int .i64 td') := by rw [← hW]; clear hW; go_cell
          have pf3 : W.frozen? ⟨w2.heap.size, 3, none⟩ = false := by rw [← hW]; clear hW; first | (with_reducible assumption) | (go_simp; done) | (simp [*]; done)
          have pc4 : W.cell? ⟨w2.heap.size, 4, none⟩ = some (.int .i64 st') := by rw [← hW]; clear hW; go_cell
          have pf4 : W.frozen? ⟨w2.heap.size, 4, none⟩ = false := by rw [← hW]; clear hW; first | (with_reducible assumption) | (go_simp; done) | (simp [*]; done)
          have pc5 : W.cell? ⟨w2.heap.size, 5, none⟩ = some (.int .i64 nx') := by rw [← hW]; clear hW; go_cell
          have pf5 : W.frozen? ⟨w2.heap.size, 5, none⟩ = false := by rw [← hW]; clear hW; first | (with_reducible assumption) | (go_simp; done) | (simp [*]; done)
          have pc6 : W.cell? ⟨w2.heap.size, 6, none⟩ = some (.int .i64 pr') := by rw [← hW]; clear hW; go_cell
          have pf6 : W.frozen? ⟨w2.heap.size, 6, none⟩ = false := by rw [← hW]; clear hW; first | (with_reducible assumption) | (go_simp; done) | (simp [*]; done)
          have pz : w2.heap.size < W.heap.size := by rw [← hW]; clear hW; go_size
          have pe : W.cell? ⟨b, off + k * 2, none⟩ = some (.int .i64 kk) := by rw [← hW]; clear hW; go_cell
          have pt : W.cell? ⟨b, off + k * 2 + 1, none⟩ = some (.int .i64 t) := by rw [← hW]; clear hW; go_cell
          have pbz : b < W.heap.size := by rw [← hW]; clear hW; go_size
          have pB : Below w2.heap.size w2 W := by
            rw [← hW]; clear hW
            repeat (first | with_reducible exact Below.refl _ _ | with_reducible assumption | (with_reducible refine balloc ?_) | (with_reducible refine bdrew ?_) | (with_reducible refine bdrewN ?_) | (with_reducible refine bset ?_ (by first | omega | (simp; done) | (simp; omega))) | (with_reducible refine bnext ?_ (by assumption)))
          have hb3' : Below wr.heap.size wr w3 := by
            repeat (first | with_reducible exact Below.refl _ _ | with_reducible assumption | (with_reducible refine balloc ?_) | (with_reducible refine bdrew ?_) | (with_reducible refine bdrewN ?_) | (with_reducible refine bset ?_ (by first | omega | (simp; done) | (simp; omega))) | (with_reducible refine bnext ?_ (by assumption)))
          have ph := own_bel rh hb3'
          replace ph := own_set (a := ⟨w2.heap.size, 0, none⟩) ph (.string { data := #[97, 64, 120] }) (own_ne rh (.inl (by show w2.heap.size < w2.heap.size + 1; omega)))
          replace ph := own_set (a := ⟨w2.heap.size, 1, none⟩) ph (.int .i64 sc') (own_ne rh (.inl (by show w2.heap.size < w2.heap.size + 1; omega)))
          replace ph := own_set (a := ⟨w2.heap.size, 2, none⟩) ph (.int .i64 dy') (own_ne rh (.inl (by show w2.heap.size < w2.heap.size + 1; omega)))
          replace ph := own_set (a := ⟨w2.heap.size, 3, none⟩) ph (.int .i64 td') (own_ne rh (.inl (by show w2.heap.size < w2.heap.size + 1; omega)))
          replace ph := own_set (a := ⟨w2.heap.size, 4, none⟩) ph (.int .i64 st') (own_ne rh (.inl (by show w2.heap.size < w2.heap.size + 1; omega)))
          replace ph := own_set (a := ⟨w2.heap.size, 5, none⟩) ph (.int .i64 nx') (own_ne rh (.inl (by show w2.heap.size < w2.heap.size + 1; omega)))
          replace ph := own_set (a := ⟨w2.heap.size, 6, none⟩) ph (.int .i64 pr') (own_ne rh (.inl (by show w2.heap.size < w2.heap.size + 1; omega)))
          rw [hW] at ph
          have ps := own_bel rs hb3'
          replace ps := own_set (a := ⟨w2.heap.size, 0, none⟩) ps (.string { data := #[97, 64, 120] }) (own_ne rs (.inl (by show w2.heap.size < w2.heap.size + 1; omega)))
          replace ps := own_set (a := ⟨w2.heap.size, 1, none⟩) ps (.int .i64 sc') (own_ne rs (.inl (by show w2.heap.size < w2.heap.size + 1; omega)))
          replace ps := own_set (a := ⟨w2.heap.size, 2, none⟩) ps (.int .i64 dy') (own_ne rs (.inl (by show w2.heap.size < w2.heap.size + 1; omega)))
          replace ps := own_set (a := ⟨w2.heap.size, 3, none⟩) ps (.int .i64 td') (own_ne rs (.inl (by show w2.heap.size < w2.heap.size + 1; omega)))
          replace ps := own_set (a := ⟨w2.heap.size, 4, none⟩) ps (.int .i64 st') (own_ne rs (.inl (by show w2.heap.size < w2.heap.size + 1; omega)))
          replace ps := own_set (a := ⟨w2.heap.size, 5, none⟩) ps (.int .i64 nx') (own_ne rs (.inl (by show w2.heap.size < w2.heap.size + 1; omega)))
          replace ps := own_set (a := ⟨w2.heap.size, 6, none⟩) ps (.int .i64 pr') (own_ne rs (.inl (by show w2.heap.size < w2.heap.size + 1; omega)))
          rw [hW] at ps
          clear hW xc00 xf00 xc01 xf01 xc02 xf02 xc03 xf03 xc04 xf04 xc05 xf05 xc06 xf06 rc0 rf0 rc1 rf1 rc2 rf2 rc3 rf3 rc4 rf4 rc5 rf5 rc6 rf6 ek et ct' ck' hb3' rh rs
          have hd0 : 0 ≤ t / 86400000 := by omega
          by_cases n0 : kk = 0
          · have q0 : (kk == 0) = true := by simp [n0]
            have q1 : (kk == 1) = false := by simp [n0]
            have q3 : (kk == 3) = false := by simp [n0]
            have q4 : (kk == 4) = false := by simp [n0]
            have hbi := hbd.out hard (addL soft (t / 86400000)) (binv_soft hI.out.2.1 hut) (fun _ => wt_soft_at _ _ _) (fun h => by omega)
            have hl1 := addL_len soft (t / 86400000)
            obtain ⟨hend1, hend2, hend3⟩ := binv_end hbi
            replace hbi := Lib.hid hbi
            clear n0
            go_upto_region 17 with ((go_at_call 12; refine (with_any (w2.heap.size + 1) u7 soft (t / 86400000) _ ps (by omega) (by omega)).mono ?_; rintro e W1 ⟨v', rfl, own1, gr, hob⟩; have rd0 := rd; have bW := below_grown ps (by omega) gr; replace pc0 := (bW.cell (p := ⟨w2.heap.size, 0, none⟩) (by show w2.heap.size < w2.heap.size + 1; omega)).trans pc0; replace pf0 := (bW.frozen (p := ⟨w2.heap.size, 0, none⟩) (by show w2.heap.size < w2.heap.size + 1; omega)).trans pf0; replace pc1 := (bW.cell (p := ⟨w2.heap.size, 1, none⟩) (by show w2.heap.size < w2.heap.size + 1; omega)).trans pc1; replace pf1 := (bW.frozen (p := ⟨w2.heap.size, 1, none⟩) (by show w2.heap.size < w2.heap.size + 1; omega)).trans pf1; replace pc2 := (bW.cell (p := ⟨w2.heap.size, 2, none⟩) (by show w2.heap.size < w2.heap.size + 1; omega)).trans pc2; replace pf2 := (bW.frozen (p := ⟨w2.heap.size, 2, none⟩) (by show w2.heap.size < w2.heap.size + 1; omega)).trans pf2; replace pc3 := (bW.cell (p := ⟨w2.heap.size, 3, none⟩) (by show w2.heap.size < w2.heap.size + 1; omega)).trans pc3; replace pf3 := (bW.frozen (p := ⟨w2.heap.size, 3, none⟩) (by show w2.heap.size < w2.heap.size + 1; omega)).trans pf3; replace pc4 := (bW.cell (p := ⟨w2.heap.size, 4, none⟩) (by show w2.heap.size < w2.heap.size + 1; omega)).trans pc4; replace pf4 := (bW.frozen (p := ⟨w2.heap.size, 4, none⟩) (by show w2.heap.size < w2.heap.size + 1; omega)).trans pf4; replace pc5 := (bW.cell (p := ⟨w2.heap.size, 5, none⟩) (by show w2.heap.size < w2.heap.size + 1; omega)).trans pc5; replace pf5 := (bW.frozen (p := ⟨w2.heap.size, 5, none⟩) (by show w2.heap.size < w2.heap.size + 1; omega)).trans pf5; replace pc6 := (bW.cell (p := ⟨w2.heap.size, 6, none⟩) (by show w2.heap.size < w2.heap.size + 1; omega)).trans pc6; replace pf6 := (bW.frozen (p := ⟨w2.heap.size, 6, none⟩) (by show w2.heap.size < w2.heap.size + 1; omega)).trans pf6; replace pe := (bW.cell (p := ⟨b, off + k * 2, none⟩) (by show b < w2.heap.size + 1; omega)).trans pe; replace pt := (bW.cell (p := ⟨b, off + k * 2 + 1, none⟩) (by show b < w2.heap.size + 1; omega)).trans pt; replace pz := Nat.lt_of_lt_of_le pz bW.size; replace pbz := Nat.lt_of_lt_of_le pbz bW.size; replace pB := pB.trans (bW.mono (by omega)); replace rd : u6.ownBlock = none ∨ u6.ownBlock ≠ v'.ownBlock := fresh_ne ph rd hob; replace ph := own_other ph gr rd0; replace ps := own1; clear gr hob own1 bW rd0))
            generalize addL soft (t / 86400000) = S at hbi hl1 hend1 hend2 hend3 ps
            obtain ⟨Hd, hHd⟩ : ∃ x, x = hard := ⟨_, rfl⟩
            subst hHd
            try dsimp only at hend1 hend2 hend3
            obtain ⟨hva, hvc, hvv, hv1, hv2⟩ := (Sl.of_own ph).val
            have hSh := Sl.of_own ph
            subst hvv
            rcases own_cases ps with ⟨hsv, hS0⟩ | ⟨gs, cs, hsv, hsc, hsm, hgs1, hgs2⟩
            · subst hsv
              obtain rfl : S = [] := List.eq_nil_of_length_eq_zero hS0
              have ho : other Hd [] = 0 := rfl
              rw [ho] at hend1 hend3
              clear ho
              go_wp2_with fail
              go_loop [10, 11] (fun o j => o = .int .i64 (0 : Nat) ∧ j = .int .i64 (0 : Nat)) (fun _ _ => 0)
              case atStart => exact ⟨rfl, rfl⟩
              case round =>
                obtain ⟨rfl, rfl⟩ := hrel
                by_cases hst0 : st' = 0
                · have hst1 : (st' != 0) = false := by simp [hst0]
                  clear hst0 hend3
                  go_wp2_with fail
                  go_roundw
                  case rel => exact ⟨k + 1, ⟨{ data := #[97, 64, 120] }, sc', dy', td', st', nx', pr'⟩, Hd, [], t, by omega, by go_num, ⟨hI2.out, hbi.out, hRk.1, hasc.out⟩, by omega, by omega, ph, ps, rd, pc0, pc1, pc2, pc3, pc4, pc5, pc6, pf0, pf1, pf2, pf3, pf4, pf5, pf6, pz, pB⟩
                  case measure => simp [intOf]; omega
                · have hst1 : (st' != 0) = true := by simp [hst0]
                  have hend4 := hend3 hst0
                  clear hst0 hend3
                  go_wp2_with fail
                  go_roundw
                  case rel => exact ⟨k + 1, ⟨{ data := #[97, 64, 120] }, sc', dy', td', st', nx', pr'⟩, Hd, [], t, by omega, by go_num, ⟨hI2.out, hbi.out, hRk.1, hasc.out⟩, by omega, by omega, ph, ps, rd, pc0, pc1, pc2, pc3, pc4, pc5, pc6, pf0, pf1, pf2, pf3, pf4, pf5, pf6, pz, pB⟩
                  case measure => simp [intOf]; omega
            · subst hsv
              have hcs : Hid (∀ j, j < S.length → W1.cell? ⟨gs, j, none⟩ = some (.int .i64 (S.getD j 0))) := fun j hj => by
                obtain ⟨b', o', c', hv', _, _, _, hc'⟩ := (Sl.of_own ps).at (by omega)
                obtain ⟨hv1, _, _⟩ := Value.slice.inj hv'
                injection hv1 with hv1; injection hv1 with e1 e2; subst e1 e2
                have := hc' j _ (cells64_get S j hj)
                simpa using this
              go_wp2_with fail
              go_loop [10, 11] (fun o j => ∃ (i : Nat) (c : Nat), i ≤ S.length ∧ c ≤ i ∧ o = .int .i64 c ∧ j = .int .i64 i ∧ Hid (((S.take i).filter fun x => decide (x ∉ Hd)).length = c)) (fun _ j => S.length - (intOf j).toNat)
              case atStart => exact ⟨0, 0, Nat.zero_le _, Nat.le_refl _, rfl, rfl, rfl⟩
              case round =>
                obtain ⟨i, c, hiS, hci, rfl, rfl, hcnt⟩ := hrel
                by_cases hil : i < S.length
                · have hcj := hcs.out i hil
                  obtain ⟨y, hy⟩ : ∃ y, S.getD i 0 = y := ⟨_, rfl⟩
                  rw [hy] at hcj
                  have htk : S.take (i + 1) = S.take i ++ [y] := by
                    rw [← hy, List.take_succ_eq_append_getElem hil, List.getD_eq_getElem?_getD, List.getElem?_eq_getElem hil]; rfl
                  replace hy := Lib.hid hy
                  by_cases hm : y ∈ Hd
                  · have hd1 : decide (y ∈ Hd) = true := by simp [hm]
                    have hcnt2 : Hid (((S.take (i + 1)).filter fun x => decide (x ∉ Hd)).length = c) := by
                      show _ = _
                      rw [htk, List.filter_append, List.length_append, hcnt.out]; simp [hm]
                    clear hm htk
                    go_wp2_with (go_at_call 13; refine (has_any _ _ Hd y _ rfl hSh).mono ?_; rw [hd1]; rintro e w5 ⟨rfl, rfl⟩)
                    go_round
                    case rel => exact ⟨i + 1, c, by omega, by omega, rfl, by go_num, hcnt2⟩
                    case measure => simp [intOf]; omega
                  · have hd1 : decide (y ∈ Hd) = false := by simp [hm]
                    have hcnt2 : Hid (((S.take (i + 1)).filter fun x => decide (x ∉ Hd)).length = c + 1) := by
                      show _ = _
                      rw [htk, List.filter_append, List.length_append, hcnt.out]; simp [hm]
                    clear hm htk
                    go_wp2_with (go_at_call 13; refine (has_any _ _ Hd y _ rfl hSh).mono ?_; rw [hd1]; rintro e w5 ⟨rfl, rfl⟩)
                    go_round
                    case rel => exact ⟨i + 1, c + 1, by omega, by omega, by go_num, by go_num, hcnt2⟩
                    case measure => simp [intOf]; omega
                · have hoc : other Hd S = c := by
                    have := hcnt.out
                    rw [List.take_of_length_le (by omega)] at this
                    exact this
                  rw [hoc] at hend1 hend3
                  clear hoc hcs
                  by_cases hst0 : st' = 0
                  · have hst1 : (st' != 0) = false := by simp [hst0]
                    clear hst0 hend3
                    go_wp2_with fail
                    go_roundw
                    case rel => exact ⟨k + 1, ⟨{ data := #[97, 64, 120] }, sc', dy', td', st', nx', pr'⟩, Hd, S, t, by omega, by go_num, ⟨hI2.out, hbi.out, hRk.1, hasc.out⟩, by omega, by omega, ph, ps, rd, pc0, pc1, pc2, pc3, pc4, pc5, pc6, pf0, pf1, pf2, pf3, pf4, pf5, pf6, pz, pB⟩
                    case measure => simp [intOf]; omega
                  · have hst1 : (st' != 0) = true := by simp [hst0]
                    have hend4 := hend3 hst0
                    clear hst0 hend3
                    go_wp2_with fail
                    go_roundw
                    case rel => exact ⟨k + 1, ⟨{ data := #[97, 64, 120] }, sc', dy', td', st', nx', pr'⟩, Hd, S, t, by omega, by go_num, ⟨hI2.out, hbi.out, hRk.1, hasc.out⟩, by omega, by omega, ph, ps, rd, pc0, pc1, pc2, pc3, pc4, pc5, pc6, pf0, pf1, pf2, pf3, pf4, pf5, pf6, pz, pB⟩
                    case measure => simp [intOf]; omega
          by_cases n1 : kk = 1
          · have q0 : (kk == 0) = false := by simp [n0]
            have q1 : (kk == 1) = true := by simp [n1]
            have q3 : (kk == 3) = false := by simp [n1]
            have q4 : (kk == 4) = false := by simp [n1]
            have hbi := hbd.out (addL hard (t / 86400000)) soft (binv_hard hI.out.2.1 hut) (fun h => by omega) (fun _ => by rw [wt_hard_at]; omega)
            have hl1 := addL_len hard (t / 86400000)
            obtain ⟨hend1, hend2, hend3⟩ := binv_end hbi
            replace hbi := Lib.hid hbi
            clear n0 n1
            go_upto_region 17 with ((go_at_call 12; refine (with_any (w2.heap.size + 1) u6 hard (t / 86400000) _ ph (by omega) (by omega)).mono ?_; rintro e W1 ⟨v', rfl, own1, gr, hob⟩; have rd0 := rd; have bW := below_grown ph (by omega) gr; replace pc0 := (bW.cell (p := ⟨w2.heap.size, 0, none⟩) (by show w2.heap.size < w2.heap.size + 1; omega)).trans pc0; replace pf0 := (bW.frozen (p := ⟨w2.heap.size, 0, none⟩) (by show w2.heap.size < w2.heap.size + 1; omega)).trans pf0; replace pc1 := (bW.cell (p := ⟨w2.heap.size, 1, none⟩) (by show w2.heap.size < w2.heap.size + 1; omega)).trans pc1; replace pf1 := (bW.frozen (p := ⟨w2.heap.size, 1, none⟩) (by show w2.heap.size < w2.heap.size + 1; omega)).trans pf1; replace pc2 := (bW.cell (p := ⟨w2.heap.size, 2, none⟩) (by show w2.heap.size < w2.heap.size + 1; omega)).trans pc2; replace pf2 := (bW.frozen (p := ⟨w2.heap.size, 2, none⟩) (by show w2.heap.size < w2.heap.size + 1; omega)).trans pf2; replace pc3 := (bW.cell (p := ⟨w2.heap.size, 3, none⟩) (by show w2.heap.size < w2.heap.size + 1; omega)).trans pc3; replace pf3 := (bW.frozen (p := ⟨w2.heap.size, 3, none⟩) (by show w2.heap.size < w2.heap.size + 1; omega)).trans pf3; replace pc4 := (bW.cell (p := ⟨w2.heap.size, 4, none⟩) (by show w2.heap.size < w2.heap.size + 1; omega)).trans pc4; replace pf4 := (bW.frozen (p := ⟨w2.heap.size, 4, none⟩) (by show w2.heap.size < w2.heap.size + 1; omega)).trans pf4; replace pc5 := (bW.cell (p := ⟨w2.heap.size, 5, none⟩) (by show w2.heap.size < w2.heap.size + 1; omega)).trans pc5; replace pf5 := (bW.frozen (p := ⟨w2.heap.size, 5, none⟩) (by show w2.heap.size < w2.heap.size + 1; omega)).trans pf5; replace pc6 := (bW.cell (p := ⟨w2.heap.size, 6, none⟩) (by show w2.heap.size < w2.heap.size + 1; omega)).trans pc6; replace pf6 := (bW.frozen (p := ⟨w2.heap.size, 6, none⟩) (by show w2.heap.size < w2.heap.size + 1; omega)).trans pf6; replace pe := (bW.cell (p := ⟨b, off + k * 2, none⟩) (by show b < w2.heap.size + 1; omega)).trans pe; replace pt := (bW.cell (p := ⟨b, off + k * 2 + 1, none⟩) (by show b < w2.heap.size + 1; omega)).trans pt; replace pz := Nat.lt_of_lt_of_le pz bW.size; replace pbz := Nat.lt_of_lt_of_le pbz bW.size; replace pB := pB.trans (bW.mono (by omega)); replace rd : v'.ownBlock = none ∨ v'.ownBlock ≠ u7.ownBlock := fresh_ne' ps rd hob; replace ps := own_other ps gr (swap_ne rd0); replace ph := own1; clear gr hob own1 bW rd0))
            generalize addL hard (t / 86400000) = Hd at hbi hl1 hend1 hend2 hend3 ph
            obtain ⟨S, hHd⟩ : ∃ x, x = soft := ⟨_, rfl⟩
            subst hHd
            try dsimp only at hend1 hend2 hend3
            obtain ⟨hva, hvc, hvv, hv1, hv2⟩ := (Sl.of_own ph).val
            have hSh := Sl.of_own ph
            subst hvv
            rcases own_cases ps with ⟨hsv, hS0⟩ | ⟨gs, cs, hsv, hsc, hsm, hgs1, hgs2⟩
            · subst hsv
              obtain rfl : S = [] := List.eq_nil_of_length_eq_zero hS0
              have ho : other Hd [] = 0 := rfl
              rw [ho] at hend1 hend3
              clear ho
              go_wp2_with fail
              go_loop [10, 11] (fun o j => o = .int .i64 (0 : Nat) ∧ j = .int .i64 (0 : Nat)) (fun _ _ => 0)
              case atStart => exact ⟨rfl, rfl⟩
              case round =>
                obtain ⟨rfl, rfl⟩ := hrel
                by_cases hst0 : st' = 0
                · have hst1 : (st' != 0) = false := by simp [hst0]
                  clear hst0 hend3
                  go_wp2_with fail
                  go_roundw
                  case rel => exact ⟨k + 1, ⟨{ data := #[97, 64, 120] }, sc', dy', td', st', nx', pr'⟩, Hd, [], t, by omega, by go_num, ⟨hI2.out, hbi.out, hRk.1, hasc.out⟩, by omega, by omega, ph, ps, rd, pc0, pc1, pc2, pc3, pc4, pc5, pc6, pf0, pf1, pf2, pf3, pf4, pf5, pf6, pz, pB⟩
                  case measure => simp [intOf]; omega
                · have hst1 : (st' != 0) = true := by simp [hst0]
                  have hend4 := hend3 hst0
                  clear hst0 hend3
                  go_wp2_with fail
                  go_roundw
                  case rel => exact ⟨k + 1, ⟨{ data := #[97, 64, 120] }, sc', dy', td', st', nx', pr'⟩, Hd, [], t, by omega, by go_num, ⟨hI2.out, hbi.out, hRk.1, hasc.out⟩, by omega, by omega, ph, ps, rd, pc0, pc1, pc2, pc3, pc4, pc5, pc6, pf0, pf1, pf2, pf3, pf4, pf5, pf6, pz, pB⟩
                  case measure => simp [intOf]; omega
            · subst hsv
              have hcs : Hid (∀ j, j < S.length → W1.cell? ⟨gs, j, none⟩ = some (.int .i64 (S.getD j 0))) := fun j hj => by
                obtain ⟨b', o', c', hv', _, _, _, hc'⟩ := (Sl.of_own ps).at (by omega)
                obtain ⟨hv1, _, _⟩ := Value.slice.inj hv'
                injection hv1 with hv1; injection hv1 with e1 e2; subst e1 e2
                have := hc' j _ (cells64_get S j hj)
                simpa using this
              go_wp2_with fail
              go_loop [10, 11] (fun o j => ∃ (i : Nat) (c : Nat), i ≤ S.length ∧ c ≤ i ∧ o = .int .i64 c ∧ j = .int .i64 i ∧ Hid (((S.take i).filter fun x => decide (x ∉ Hd)).length = c)) (fun _ j => S.length - (intOf j).toNat)
              case atStart => exact ⟨0, 0, Nat.zero_le _, Nat.le_refl _, rfl, rfl, rfl⟩
              case round =>
                obtain ⟨i, c, hiS, hci, rfl, rfl, hcnt⟩ := hrel
                by_cases hil : i < S.length
                · have hcj := hcs.out i hil
                  obtain ⟨y, hy⟩ : ∃ y, S.getD i 0 = y := ⟨_, rfl⟩
                  rw [hy] at hcj
                  have htk : S.take (i + 1) = S.take i ++ [y] := by
                    rw [← hy, List.take_succ_eq_append_getElem hil, List.getD_eq_getElem?_getD, List.getElem?_eq_getElem hil]; rfl
                  replace hy := Lib.hid hy
                  by_cases hm : y ∈ Hd
                  · have hd1 : decide (y ∈ Hd) = true := by simp [hm]
                    have hcnt2 : Hid (((S.take (i + 1)).filter fun x => decide (x ∉ Hd)).length = c) := by
                      show _ = _
                      rw [htk, List.filter_append, List.length_append, hcnt.out]; simp [hm]
                    clear hm htk
                    go_wp2_with (go_at_call 13; refine (has_any _ _ Hd y _ rfl hSh).mono ?_; rw [hd1]; rintro e w5 ⟨rfl, rfl⟩)
                    go_round
                    case rel => exact ⟨i + 1, c, by omega, by omega, rfl, by go_num, hcnt2⟩
                    case measure => simp [intOf]; omega
                  · have hd1 : decide (y ∈ Hd) = false := by simp [hm]
                    have hcnt2 : Hid (((S.take (i + 1)).filter fun x => decide (x ∉ Hd)).length = c + 1) := by
                      show _ = _
                      rw [htk, List.filter_append, List.length_append, hcnt.out]; simp [hm]
                    clear hm htk
                    go_wp2_with (go_at_call 13; refine (has_any _ _ Hd y _ rfl hSh).mono ?_; rw [hd1]; rintro e w5 ⟨rfl, rfl⟩)
                    go_round
                    case rel => exact ⟨i + 1, c + 1, by omega, by omega, by go_num, by go_num, hcnt2⟩
                    case measure => simp [intOf]; omega
                · have hoc : other Hd S = c := by
                    have := hcnt.out
                    rw [List.take_of_length_le (by omega)] at this
                    exact this
                  rw [hoc] at hend1 hend3
                  clear hoc hcs
                  by_cases hst0 : st' = 0
                  · have hst1 : (st' != 0) = false := by simp [hst0]
                    clear hst0 hend3
                    go_wp2_with fail
                    go_roundw
                    case rel => exact ⟨k + 1, ⟨{ data := #[97, 64, 120] }, sc', dy', td', st', nx', pr'⟩, Hd, S, t, by omega, by go_num, ⟨hI2.out, hbi.out, hRk.1, hasc.out⟩, by omega, by omega, ph, ps, rd, pc0, pc1, pc2, pc3, pc4, pc5, pc6, pf0, pf1, pf2, pf3, pf4, pf5, pf6, pz, pB⟩
                    case measure => simp [intOf]; omega
                  · have hst1 : (st' != 0) = true := by simp [hst0]
                    have hend4 := hend3 hst0
                    clear hst0 hend3
                    go_wp2_with fail
                    go_roundw
                    case rel => exact ⟨k + 1, ⟨{ data := #[97, 64, 120] }, sc', dy', td', st', nx', pr'⟩, Hd, S, t, by omega, by go_num, ⟨hI2.out, hbi.out, hRk.1, hasc.out⟩, by omega, by omega, ph, ps, rd, pc0, pc1, pc2, pc3, pc4, pc5, pc6, pf0, pf1, pf2, pf3, pf4, pf5, pf6, pz, pB⟩
                    case measure => simp [intOf]; omega
          by_cases n3 : kk = 3
          · have q0 : (kk == 0) = false := by simp [n0]
            have q1 : (kk == 1) = false := by simp [n1]
            have q3 : (kk == 3) = true := by simp [n3]
            have q4 : (kk == 4) = false := by simp [n3]
            have hbi := hbd.out (addL hard (t / 86400000)) soft (binv_hard hI.out.2.1 hut) (fun h => by omega) (fun _ => by rw [wt_hard_at]; omega)
            have hl1 := addL_len hard (t / 86400000)
            obtain ⟨hend1, hend2, hend3⟩ := binv_end hbi
            replace hbi := Lib.hid hbi
            clear n0 n1 n3
            go_upto_region 17 with ((go_at_call 12; refine (with_any (w2.heap.size + 1) u6 hard (t / 86400000) _ ph (by omega) (by omega)).mono ?_; rintro e W1 ⟨v', rfl, own1, gr, hob⟩; have rd0 := rd; have bW := below_grown ph (by omega) gr; replace pc0 := (bW.cell (p := ⟨w2.heap.size, 0, none⟩) (by show w2.heap.size < w2.heap.size + 1; omega)).trans pc0; replace pf0 := (bW.frozen (p := ⟨w2.heap.size, 0, none⟩) (by show w2.heap.size < w2.heap.size + 1; omega)).trans pf0; replace pc1 := (bW.cell (p := ⟨w2.heap.size, 1, none⟩) (by show w2.heap.size < w2.heap.size + 1; omega)).trans pc1; replace pf1 := (bW.frozen (p := ⟨w2.heap.size, 1, none⟩) (by show w2.heap.size < w2.heap.size + 1; omega)).trans pf1; replace pc2 := (bW.cell (p := ⟨w2.heap.size, 2, none⟩) (by show w2.heap.size < w2.heap.size + 1; omega)).trans pc2; replace pf2 := (bW.frozen (p := ⟨w2.heap.size, 2, none⟩) (by show w2.heap.size < w2.heap.size + 1; omega)).trans pf2; replace pc3 := (bW.cell (p := ⟨w2.heap.size, 3, none⟩) (by show w2.heap.size < w2.heap.size + 1; omega)).trans pc3; replace pf3 := (bW.frozen (p := ⟨w2.heap.size, 3, none⟩) (by show w2.heap.size < w2.heap.size + 1; omega)).trans pf3; replace pc4 := (bW.cell (p := ⟨w2.heap.size, 4, none⟩) (by show w2.heap.size < w2.heap.size + 1; omega)).trans pc4; replace pf4 := (bW.frozen (p := ⟨w2.heap.size, 4, none⟩) (by show w2.heap.size < w2.heap.size + 1; omega)).trans pf4; replace pc5 := (bW.cell (p := ⟨w2.heap.size, 5, none⟩) (by show w2.heap.size < w2.heap.size + 1; omega)).trans pc5; replace pf5 := (bW.frozen (p := ⟨w2.heap.size, 5, none⟩) (by show w2.heap.size < w2.heap.size + 1; omega)).trans pf5; replace pc6 := (bW.cell (p := ⟨w2.heap.size, 6, none⟩) (by show w2.heap.size < w2.heap.size + 1; omega)).trans pc6; replace pf6 := (bW.frozen (p := ⟨w2.heap.size, 6, none⟩) (by show w2.heap.size < w2.heap.size + 1; omega)).trans pf6; replace pe := (bW.cell (p := ⟨b, off + k * 2, none⟩) (by show b < w2.heap.size + 1; omega)).trans pe; replace pt := (bW.cell (p := ⟨b, off + k * 2 + 1, none⟩) (by show b < w2.heap.size + 1; omega)).trans pt; replace pz := Nat.lt_of_lt_of_le pz bW.size; replace pbz := Nat.lt_of_lt_of_le pbz bW.size; replace pB := pB.trans (bW.mono (by omega)); replace rd : v'.ownBlock = none ∨ v'.ownBlock ≠ u7.ownBlock := fresh_ne' ps rd hob; replace ps := own_other ps gr (swap_ne rd0); replace ph := own1; clear gr hob own1 bW rd0))
            generalize addL hard (t / 86400000) = Hd at hbi hl1 hend1 hend2 hend3 ph
            obtain ⟨S, hHd⟩ : ∃ x, x = soft := ⟨_, rfl⟩
            subst hHd
            try dsimp only at hend1 hend2 hend3
            obtain ⟨hva, hvc, hvv, hv1, hv2⟩ := (Sl.of_own ph).val
            have hSh := Sl.of_own ph
            subst hvv
            rcases own_cases ps with ⟨hsv, hS0⟩ | ⟨gs, cs, hsv, hsc, hsm, hgs1, hgs2⟩
            · subst hsv
              obtain rfl : S = [] := List.eq_nil_of_length_eq_zero hS0
              have ho : other Hd [] = 0 := rfl
              rw [ho] at hend1 hend3
              clear ho
              go_wp2_with fail
              go_loop [10, 11] (fun o j => o = .int .i64 (0 : Nat) ∧ j = .int .i64 (0 : Nat)) (fun _ _ => 0)
              case atStart => exact ⟨rfl, rfl⟩
              case round =>
                obtain ⟨rfl, rfl⟩ := hrel
                by_cases hst0 : st' = 0
                · have hst1 : (st' != 0) = false := by simp [hst0]
                  clear hst0 hend3
                  go_wp2_with fail
                  go_roundw
                  case rel => exact ⟨k + 1, ⟨{ data := #[97, 64, 120] }, sc', dy', td', st', nx', pr'⟩, Hd, [], t, by omega, by go_num, ⟨hI2.out, hbi.out, hRk.1, hasc.out⟩, by omega, by omega, ph, ps, rd, pc0, pc1, pc2, pc3, pc4, pc5, pc6, pf0, pf1, pf2, pf3, pf4, pf5, pf6, pz, pB⟩
                  case measure => simp [intOf]; omega
                · have hst1 : (st' != 0) = true := by simp [hst0]
                  have hend4 := hend3 hst0
                  clear hst0 hend3
                  go_wp2_with fail
                  go_roundw
                  case rel => exact ⟨k + 1, ⟨{ data := #[97, 64, 120] }, sc', dy', td', st', nx', pr'⟩, Hd, [], t, by omega, by go_num, ⟨hI2.out, hbi.out, hRk.1, hasc.out⟩, by omega, by omega, ph, ps, rd, pc0, pc1, pc2, pc3, pc4, pc5, pc6, pf0, pf1, pf2, pf3, pf4, pf5, pf6, pz, pB⟩
                  case measure => simp [intOf]; omega
            · subst hsv
              have hcs : Hid (∀ j, j < S.length → W1.cell? ⟨gs, j, none⟩ = some (.int .i64 (S.getD j 0))) := fun j hj => by
                obtain ⟨b', o', c', hv', _, _, _, hc'⟩ := (Sl.of_own ps).at (by omega)
                obtain ⟨hv1, _, _⟩ := Value.slice.inj hv'
                injection hv1 with hv1; injection hv1 with e1 e2; subst e1 e2
                have := hc' j _ (cells64_get S j hj)
                simpa using this
              go_wp2_with fail
              go_loop [10, 11] (fun o j => ∃ (i : Nat) (c : Nat), i ≤ S.length ∧ c ≤ i ∧ o = .int .i64 c ∧ j = .int .i64 i ∧ Hid (((S.take i).filter fun x => decide (x ∉ Hd)).length = c)) (fun _ j => S.length - (intOf j).toNat)
              case atStart => exact ⟨0, 0, Nat.zero_le _, Nat.le_refl _, rfl, rfl, rfl⟩
              case round =>
                obtain ⟨i, c, hiS, hci, rfl, rfl, hcnt⟩ := hrel
                by_cases hil : i < S.length
                · have hcj := hcs.out i hil
                  obtain ⟨y, hy⟩ : ∃ y, S.getD i 0 = y := ⟨_, rfl⟩
                  rw [hy] at hcj
                  have htk : S.take (i + 1) = S.take i ++ [y] := by
                    rw [← hy, List.take_succ_eq_append_getElem hil, List.getD_eq_getElem?_getD, List.getElem?_eq_getElem hil]; rfl
                  replace hy := Lib.hid hy
                  by_cases hm : y ∈ Hd
                  · have hd1 : decide (y ∈ Hd) = true := by simp [hm]
                    have hcnt2 : Hid (((S.take (i + 1)).filter fun x => decide (x ∉ Hd)).length = c) := by
                      show _ = _
                      rw [htk, List.filter_append, List.length_append, hcnt.out]; simp [hm]
                    clear hm htk
                    go_wp2_with (go_at_call 13; refine (has_any _ _ Hd y _ rfl hSh).mono ?_; rw [hd1]; rintro e w5 ⟨rfl, rfl⟩)
                    go_round
                    case rel => exact ⟨i + 1, c, by omega, by omega, rfl, by go_num, hcnt2⟩
                    case measure => simp [intOf]; omega
                  · have hd1 : decide (y ∈ Hd) = false := by simp [hm]
                    have hcnt2 : Hid (((S.take (i + 1)).filter fun x => decide (x ∉ Hd)).length = c + 1) := by
                      show _ = _
                      rw [htk, List.filter_append, List.length_append, hcnt.out]; simp [hm]
                    clear hm htk
                    go_wp2_with (go_at_call 13; refine (has_any _ _ Hd y _ rfl hSh).mono ?_; rw [hd1]; rintro e w5 ⟨rfl, rfl⟩)
                    go_round
                    case rel => exact ⟨i + 1, c + 1, by omega, by omega, by go_num, by go_num, hcnt2⟩
                    case measure => simp [intOf]; omega
                · have hoc : other Hd S = c := by
                    have := hcnt.out
                    rw [List.take_of_length_le (by omega)] at this
                    exact this
                  rw [hoc] at hend1 hend3
                  clear hoc hcs
                  by_cases hst0 : st' = 0
                  · have hst1 : (st' != 0) = false := by simp [hst0]
                    clear hst0 hend3
                    go_wp2_with fail
                    go_roundw
                    case rel => exact ⟨k + 1, ⟨{ data := #[97, 64, 120] }, sc', dy', td', st', nx', pr'⟩, Hd, S, t, by omega, by go_num, ⟨hI2.out, hbi.out, hRk.1, hasc.out⟩, by omega, by omega, ph, ps, rd, pc0, pc1, pc2, pc3, pc4, pc5, pc6, pf0, pf1, pf2, pf3, pf4, pf5, pf6, pz, pB⟩
                    case measure => simp [intOf]; omega
                  · have hst1 : (st' != 0) = true := by simp [hst0]
                    have hend4 := hend3 hst0
                    clear hst0 hend3
                    go_wp2_with fail
                    go_roundw
                    case rel => exact ⟨k + 1, ⟨{ data := #[97, 64, 120] }, sc', dy', td', st', nx', pr'⟩, Hd, S, t, by omega, by go_num, ⟨hI2.out, hbi.out, hRk.1, hasc.out⟩, by omega, by omega, ph, ps, rd, pc0, pc1, pc2, pc3, pc4, pc5, pc6, pf0, pf1, pf2, pf3, pf4, pf5, pf6, pz, pB⟩
                    case measure => simp [intOf]; omega
          by_cases n4 : kk = 4
          · have q0 : (kk == 0) = false := by simp [n0]
            have q1 : (kk == 1) = false := by simp [n1]
            have q3 : (kk == 3) = false := by simp [n3]
            have q4 : (kk == 4) = true := by simp [n4]
            have hbi := hbd.out (addL hard (t / 86400000)) soft (binv_hard hI.out.2.1 hut) (fun h => by omega) (fun _ => by rw [wt_hard_at]; omega)
            have hl1 := addL_len hard (t / 86400000)
            obtain ⟨hend1, hend2, hend3⟩ := binv_end hbi
            replace hbi := Lib.hid hbi
            clear n0 n1 n3 n4
            go_upto_region 17 with ((go_at_call 12; refine (with_any (w2.heap.size + 1) u6 hard (t / 86400000) _ ph (by omega) (by omega)).mono ?_; rintro e W1 ⟨v', rfl, own1, gr, hob⟩; have rd0 := rd; have bW := below_grown ph (by omega) gr; replace pc0 := (bW.cell (p := ⟨w2.heap.size, 0, none⟩) (by show w2.heap.size < w2.heap.size + 1; omega)).trans pc0; replace pf0 := (bW.frozen (p := ⟨w2.heap.size, 0, none⟩) (by show w2.heap.size < w2.heap.size + 1; omega)).trans pf0; replace pc1 := (bW.cell (p := ⟨w2.heap.size, 1, none⟩) (by show w2.heap.size < w2.heap.size + 1; omega)).trans pc1; replace pf1 := (bW.frozen (p := ⟨w2.heap.size, 1, none⟩) (by show w2.heap.size < w2.heap.size + 1; omega)).trans pf1; replace pc2 := (bW.cell (p := ⟨w2.heap.size, 2, none⟩) (by show w2.heap.size < w2.heap.size + 1; omega)).trans pc2; replace pf2 := (bW.frozen (p := ⟨w2.heap.size, 2, none⟩) (by show w2.heap.size < w2.heap.size + 1; omega)).trans pf2; replace pc3 := (bW.cell (p := ⟨w2.heap.size, 3, none⟩) (by show w2.heap.size < w2.heap.size + 1; omega)).trans pc3; replace pf3 := (bW.frozen (p := ⟨w2.heap.size, 3, none⟩) (by show w2.heap.size < w2.heap.size + 1; omega)).trans pf3; replace pc4 := (bW.cell (p := ⟨w2.heap.size, 4, none⟩) (by show w2.heap.size < w2.heap.size + 1; omega)).trans pc4; replace pf4 := (bW.frozen (p := ⟨w2.heap.size, 4, none⟩) (by show w2.heap.size < w2.heap.size + 1; omega)).trans pf4; replace pc5 := (bW.cell (p := ⟨w2.heap.size, 5, none⟩) (by show w2.heap.size < w2.heap.size + 1; omega)).trans pc5; replace pf5 := (bW.frozen (p := ⟨w2.heap.size, 5, none⟩) (by show w2.heap.size < w2.heap.size + 1; omega)).trans pf5; replace pc6 := (bW.cell (p := ⟨w2.heap.size, 6, none⟩) (by show w2.heap.size < w2.heap.size + 1; omega)).trans pc6; replace pf6 := (bW.frozen (p := ⟨w2.heap.size, 6, none⟩) (by show w2.heap.size < w2.heap.size + 1; omega)).trans pf6; replace pe := (bW.cell (p := ⟨b, off + k * 2, none⟩) (by show b < w2.heap.size + 1; omega)).trans pe; replace pt := (bW.cell (p := ⟨b, off + k * 2 + 1, none⟩) (by show b < w2.heap.size + 1; omega)).trans pt; replace pz := Nat.lt_of_lt_of_le pz bW.size; replace pbz := Nat.lt_of_lt_of_le pbz bW.size; replace pB := pB.trans (bW.mono (by omega)); replace rd : v'.ownBlock = none ∨ v'.ownBlock ≠ u7.ownBlock := fresh_ne' ps rd hob; replace ps := own_other ps gr (swap_ne rd0); replace ph := own1; clear gr hob own1 bW rd0))
            generalize addL hard (t / 86400000) = Hd at hbi hl1 hend1 hend2 hend3 ph
            obtain ⟨S, hHd⟩ : ∃ x, x = soft := ⟨_, rfl⟩
            subst hHd
            try dsimp only at hend1 hend2 hend3
            obtain ⟨hva, hvc, hvv, hv1, hv2⟩ := (Sl.of_own ph).val
            have hSh := Sl.of_own ph
            subst hvv
            rcases own_cases ps with ⟨hsv, hS0⟩ | ⟨gs, cs, hsv, hsc, hsm, hgs1, hgs2⟩
            · subst hsv
              obtain rfl : S = [] := List.eq_nil_of_length_eq_zero hS0
              have ho : other Hd [] = 0 := rfl
              rw [ho] at hend1 hend3
              clear ho
              go_wp2_with fail
              go_loop [10, 11] (fun o j => o = .int .i64 (0 : Nat) ∧ j = .int .i64 (0 : Nat)) (fun _ _ => 0)
              case atStart => exact ⟨rfl, rfl⟩
              case round =>
                obtain ⟨rfl, rfl⟩ := hrel
                by_cases hst0 : st' = 0
                · have hst1 : (st' != 0) = false := by simp [hst0]
                  clear hst0 hend3
                  go_wp2_with fail
                  go_roundw
                  case rel => exact ⟨k + 1, ⟨{ data := #[97, 64, 120] }, sc', dy', td', st', nx', pr'⟩, Hd, [], t, by omega, by go_num, ⟨hI2.out, hbi.out, hRk.1, hasc.out⟩, by omega, by omega, ph, ps, rd, pc0, pc1, pc2, pc3, pc4, pc5, pc6, pf0, pf1, pf2, pf3, pf4, pf5, pf6, pz, pB⟩
                  case measure => simp [intOf]; omega
                · have hst1 : (st' != 0) = true := by simp [hst0]
                  have hend4 := hend3 hst0
                  clear hst0 hend3
                  go_wp2_with fail
                  go_roundw
                  case rel => exact ⟨k + 1, ⟨{ data := #[97, 64, 120] }, sc', dy', td', st', nx', pr'⟩, Hd, [], t, by omega, by go_num, ⟨hI2.out, hbi.out, hRk.1, hasc.out⟩, by omega, by omega, ph, ps, rd, pc0, pc1, pc2, pc3, pc4, pc5, pc6, pf0, pf1, pf2, pf3, pf4, pf5, pf6, pz, pB⟩
                  case measure => simp [intOf]; omega
            · subst hsv
              have hcs : Hid (∀ j, j < S.length → W1.cell? ⟨gs, j, none⟩ = some (.int .i64 (S.getD j 0))) := fun j hj => by
                obtain ⟨b', o', c', hv', _, _, _, hc'⟩ := (Sl.of_own ps).at (by omega)
                obtain ⟨hv1, _, _⟩ := Value.slice.inj hv'
                injection hv1 with hv1; injection hv1 with e1 e2; subst e1 e2
                have := hc' j _ (cells64_get S j hj)
                simpa using this
              go_wp2_with fail
              go_loop [10, 11] (fun o j => ∃ (i : Nat) (c : Nat), i ≤ S.length ∧ c ≤ i ∧ o = .int .i64 c ∧ j = .int .i64 i ∧ Hid (((S.take i).filter fun x => decide (x ∉ Hd)).length = c)) (fun _ j => S.length - (intOf j).toNat)
              case atStart => exact ⟨0, 0, Nat.zero_le _, Nat.le_refl _, rfl, rfl, rfl⟩
              case round =>
                obtain ⟨i, c, hiS, hci, rfl, rfl, hcnt⟩ := hrel
                by_cases hil : i < S.length
                · have hcj := hcs.out i hil
                  obtain ⟨y, hy⟩ : ∃ y, S.getD i 0 = y := ⟨_, rfl⟩
                  rw [hy] at hcj
                  have htk : S.take (i + 1) = S.take i ++ [y] := by
                    rw [← hy, List.take_succ_eq_append_getElem hil, List.getD_eq_getElem?_getD, List.getElem?_eq_getElem hil]; rfl
                  replace hy := Lib.hid hy
                  by_cases hm : y ∈ Hd
                  · have hd1 : decide (y ∈ Hd) = true := by simp [hm]
                    have hcnt2 : Hid (((S.take (i + 1)).filter fun x => decide (x ∉ Hd)).length = c) := by
                      show _ = _
                      rw [htk, List.filter_append, List.length_append, hcnt.out]; simp [hm]
                    clear hm htk
                    go_wp2_with (go_at_call 13; refine (has_any _ _ Hd y _ rfl hSh).mono ?_; rw [hd1]; rintro e w5 ⟨rfl, rfl⟩)
                    go_round
                    case rel => exact ⟨i + 1, c, by omega, by omega, rfl, by go_num, hcnt2⟩
                    case measure => simp [intOf]; omega
                  · have hd1 : decide (y ∈ Hd) = false := by simp [hm]
                    have hcnt2 : Hid (((S.take (i + 1)).filter fun x => decide (x ∉ Hd)).length = c + 1) := by
                      show _ = _
                      rw [htk, List.filter_append, List.length_append, hcnt.out]; simp [hm]
                    clear hm htk
                    go_wp2_with (go_at_call 13; refine (has_any _ _ Hd y _ rfl hSh).mono ?_; rw [hd1]; rintro e w5 ⟨rfl, rfl⟩)
                    go_round
                    case rel => exact ⟨i + 1, c + 1, by omega, by omega, by go_num, by go_num, hcnt2⟩
                    case measure => simp [intOf]; omega
                · have hoc : other Hd S = c := by
                    have := hcnt.out
                    rw [List.take_of_length_le (by omega)] at this
                    exact this
                  rw [hoc] at hend1 hend3
                  clear hoc hcs
                  by_cases hst0 : st' = 0
                  · have hst1 : (st' != 0) = false := by simp [hst0]
                    clear hst0 hend3
                    go_wp2_with fail
                    go_roundw
                    case rel => exact ⟨k + 1, ⟨{ data := #[97, 64, 120] }, sc', dy', td', st', nx', pr'⟩, Hd, S, t, by omega, by go_num, ⟨hI2.out, hbi.out, hRk.1, hasc.out⟩, by omega, by omega, ph, ps, rd, pc0, pc1, pc2, pc3, pc4, pc5, pc6, pf0, pf1, pf2, pf3, pf4, pf5, pf6, pz, pB⟩
                    case measure => simp [intOf]; omega
                  · have hst1 : (st' != 0) = true := by simp [hst0]
                    have hend4 := hend3 hst0
                    clear hst0 hend3
                    go_wp2_with fail
                    go_roundw
                    case rel => exact ⟨k + 1, ⟨{ data := #[97, 64, 120] }, sc', dy', td', st', nx', pr'⟩, Hd, S, t, by omega, by go_num, ⟨hI2.out, hbi.out, hRk.1, hasc.out⟩, by omega, by omega, ph, ps, rd, pc0, pc1, pc2, pc3, pc4, pc5, pc6, pf0, pf1, pf2, pf3, pf4, pf5, pf6, pz, pB⟩
                    case measure => simp [intOf]; omega
          have q0 : (kk == 0) = false := by simp [n0]
          have q1 : (kk == 1) = false := by simp [n1]
          have q3 : (kk == 3) = false := by simp [n3]
          have q4 : (kk == 4) = false := by simp [n4]
          have hbi := hbd.out hard soft (binv_later hI.out.2.1 hut) (fun h => by omega) (fun h => by omega)
          obtain ⟨hend1, hend2, hend3⟩ := binv_end hbi
          replace hbi := Lib.hid hbi
          clear n0 n1 n3 n4
          go_upto_region 17 with (fail)
          obtain ⟨Hd, hHd⟩ : ∃ x, x = hard := ⟨_, rfl⟩
          obtain ⟨S, hHd2⟩ : ∃ x, x = soft := ⟨_, rfl⟩
          subst hHd hHd2
          try dsimp only at hend1 hend2 hend3
          obtain ⟨hva, hvc, hvv, hv1, hv2⟩ := (Sl.of_own ph).val
          have hSh := Sl.of_own ph
          subst hvv
          rcases own_cases ps with ⟨hsv, hS0⟩ | ⟨gs, cs, hsv, hsc, hsm, hgs1, hgs2⟩
          · subst hsv
            obtain rfl : S = [] := List.eq_nil_of_length_eq_zero hS0
            have ho : other Hd [] = 0 := rfl
            rw [ho] at hend1 hend3
            clear ho
            go_wp2_with fail
            go_loop [10, 11] (fun o j => o = .int .i64 (0 : Nat) ∧ j = .int .i64 (0 : Nat)) (fun _ _ => 0)
            case atStart => exact ⟨rfl, rfl⟩
            case round =>
              obtain ⟨rfl, rfl⟩ := hrel
              by_cases hst0 : st' = 0
              · have hst1 : (st' != 0) = false := by simp [hst0]
                clear hst0 hend3
                go_wp2_with fail
                go_roundw
                case rel => exact ⟨k + 1, ⟨{ data := #[97, 64, 120] }, sc', dy', td', st', nx', pr'⟩, Hd, [], t, by omega, by go_num, ⟨hI2.out, hbi.out, hRk.1, hasc.out⟩, by omega, by omega, ph, ps, rd, pc0, pc1, pc2, pc3, pc4, pc5, pc6, pf0, pf1, pf2, pf3, pf4, pf5, pf6, pz, pB⟩
                case measure => simp [intOf]; omega
              · have hst1 : (st' != 0) = true := by simp [hst0]
                have hend4 := hend3 hst0
                clear hst0 hend3
                go_wp2_with fail
                go_roundw
                case rel => exact ⟨k + 1, ⟨{ data := #[97, 64, 120] }, sc', dy', td', st', nx', pr'⟩, Hd, [], t, by omega, by go_num, ⟨hI2.out, hbi.out, hRk.1, hasc.out⟩, by omega, by omega, ph, ps, rd, pc0, pc1, pc2, pc3, pc4, pc5, pc6, pf0, pf1, pf2, pf3, pf4, pf5, pf6, pz, pB⟩
                case measure => simp [intOf]; omega
          · subst hsv
            have hcs : Hid (∀ j, j < S.length → W.cell? ⟨gs, j, none⟩ = some (.int .i64 (S.getD j 0))) := fun j hj => by
              obtain ⟨b', o', c', hv', _, _, _, hc'⟩ := (Sl.of_own ps).at (by omega)
              obtain ⟨hv1, _, _⟩ := Value.slice.inj hv'
              injection hv1 with hv1; injection hv1 with e1 e2; subst e1 e2
              have := hc' j _ (cells64_get S j hj)
              simpa using this
            go_wp2_with fail
            go_loop [10, 11] (fun o j => ∃ (i : Nat) (c : Nat), i ≤ S.length ∧ c ≤ i ∧ o = .int .i64 c ∧ j = .int .i64 i ∧ Hid (((S.take i).filter fun x => decide (x ∉ Hd)).length = c)) (fun _ j => S.length - (intOf j).toNat)
            case atStart => exact ⟨0, 0, Nat.zero_le _, Nat.le_refl _, rfl, rfl, rfl⟩
            case round =>
              obtain ⟨i, c, hiS, hci, rfl, rfl, hcnt⟩ := hrel
              by_cases hil : i < S.length
              · have hcj := hcs.out i hil
                obtain ⟨y, hy⟩ : ∃ y, S.getD i 0 = y := ⟨_, rfl⟩
                rw [hy] at hcj
                have htk : S.take (i + 1) = S.take i ++ [y] := by
                  rw [← hy, List.take_succ_eq_append_getElem hil, List.getD_eq_getElem?_getD, List.getElem?_eq_getElem hil]; rfl
                replace hy := Lib.hid hy
                by_cases hm : y ∈ Hd
                · have hd1 : decide (y ∈ Hd) = true := by simp [hm]
                  have hcnt2 : Hid (((S.take (i + 1)).filter fun x => decide (x ∉ Hd)).length = c) := by
                    show _ = _
                    rw [htk, List.filter_append, List.length_append, hcnt.out]; simp [hm]
                  clear hm htk
                  go_wp2_with (go_at_call 13; refine (has_any _ _ Hd y _ rfl hSh).mono ?_; rw [hd1]; rintro e w5 ⟨rfl, rfl⟩)
                  go_round
                  case rel => exact ⟨i + 1, c, by omega, by omega, rfl, by go_num, hcnt2⟩
                  case measure => simp [intOf]; omega
                · have hd1 : decide (y ∈ Hd) = false := by simp [hm]
                  have hcnt2 : Hid (((S.take (i + 1)).filter fun x => decide (x ∉ Hd)).length = c + 1) := by
                    show _ = _
                    rw [htk, List.filter_append, List.length_append, hcnt.out]; simp [hm]
                  clear hm htk
                  go_wp2_with (go_at_call 13; refine (has_any _ _ Hd y _ rfl hSh).mono ?_; rw [hd1]; rintro e w5 ⟨rfl, rfl⟩)
                  go_round
                  case rel => exact ⟨i + 1, c + 1, by omega, by omega, by go_num, by go_num, hcnt2⟩
                  case measure => simp [intOf]; omega
              · have hoc : other Hd S = c := by
                  have := hcnt.out
                  rw [List.take_of_length_le (by omega)] at this
                  exact this
                rw [hoc] at hend1 hend3
                clear hoc hcs
                by_cases hst0 : st' = 0
                · have hst1 : (st' != 0) = false := by simp [hst0]
                  clear hst0 hend3
                  go_wp2_with fail
                  go_roundw
                  case rel => exact ⟨k + 1, ⟨{ data := #[97, 64, 120] }, sc', dy', td', st', nx', pr'⟩, Hd, S, t, by omega, by go_num, ⟨hI2.out, hbi.out, hRk.1, hasc.out⟩, by omega, by omega, ph, ps, rd, pc0, pc1, pc2, pc3, pc4, pc5, pc6, pf0, pf1, pf2, pf3, pf4, pf5, pf6, pz, pB⟩
                  case measure => simp [intOf]; omega
                · have hst1 : (st' != 0) = true := by simp [hst0]
                  have hend4 := hend3 hst0
                  clear hst0 hend3
                  go_wp2_with fail
                  go_roundw
                  case rel => exact ⟨k + 1, ⟨{ data := #[97, 64, 120] }, sc', dy', td', st', nx', pr'⟩, Hd, S, t, by omega, by go_num, ⟨hI2.out, hbi.out, hRk.1, hasc.out⟩, by omega, by omega, ph, ps, rd, pc0, pc1, pc2, pc3, pc4, pc5, pc6, pf0, pf1, pf2, pf3, pf4, pf5, pf6, pz, pB⟩
                  case measure => simp [intOf]; omega
      · go_wp2_with fail
        go_ret
        refine ⟨rfl, ?_⟩
        have hBr : Below w.heap.size w wr := hB2.trans (rB.mono hsz)
        exact hBr
end Go.Proofs.Ytnbfmmnbjjeecac

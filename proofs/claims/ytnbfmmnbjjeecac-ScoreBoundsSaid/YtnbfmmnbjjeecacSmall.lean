/- The examples of the documentation: missivelaw40.small returns true. -/
import Derived.Test.YtnbfmmnbjjeecacDo
import Derived.Test.YtnbfmmnbjjeecacTail
namespace Go.Proofs.Ytnbfmmnbjjeecac
open Go.RowKit
set_option linter.unusedVariables false
theorem Bounce_at (a : ByteArray) (sc dy td st nx pr sc' dy' td' st' nx' pr' now : Int) (hard : Bool) (w : World) (ok : HOk ⟨a, sc, dy, td, st, nx, pr⟩ now) (hr : bounceH ⟨a, sc, dy, td, st, nx, pr⟩ now hard = ⟨a, sc', dy', td', st', nx', pr'⟩) :
    Calls Try.prog 8 #[.agg #[.string a, .int .i64 sc, .int .i64 dy, .int .i64 td, .int .i64 st, .int .i64 nx, .int .i64 pr], .int .i64 now, .bool hard] w fun e w' => e = .returned (.agg #[.string a, .int .i64 sc', .int .i64 dy', .int .i64 td', .int .i64 st', .int .i64 nx', .int .i64 pr']) ∧ Bel w w' :=
  Bounce_h ⟨a, sc, dy, td, st, nx, pr⟩ ⟨a, sc', dy', td', st', nx', pr'⟩ now hard w ok hr
theorem Tick_at (a : ByteArray) (sc dy td st nx pr sc' dy' td' st' nx' pr' now : Int) (q : Bool) (w : World) (ok : HOk ⟨a, sc, dy, td, st, nx, pr⟩ now) (hp0 : -1 ≤ pr) (hp1 : pr ≤ 1000) (hr : tickH ⟨a, sc, dy, td, st, nx, pr⟩ now = ⟨a, sc', dy', td', st', nx', pr'⟩) (hq : tickP ⟨a, sc, dy, td, st, nx, pr⟩ now = q) :
    Calls Try.prog 16 #[.agg #[.string a, .int .i64 sc, .int .i64 dy, .int .i64 td, .int .i64 st, .int .i64 nx, .int .i64 pr], .int .i64 now] w fun e w' => e = .returned (.tuple #[.agg #[.string a, .int .i64 sc', .int .i64 dy', .int .i64 td', .int .i64 st', .int .i64 nx', .int .i64 pr'], .bool q]) ∧ Bel w w' :=
  Tick_h ⟨a, sc, dy, td, st, nx, pr⟩ ⟨a, sc', dy', td', st', nx', pr'⟩ now q w ok hp0 hp1 hr hq
theorem Down_at (a : ByteArray) (sc dy td st nx pr sc' dy' td' st' nx' pr' now : Int) (k : Bool) (w : World) (ok : HOk ⟨a, sc, dy, td, st, nx, pr⟩ now) (hp0 : -1 ≤ pr) (hp1 : pr ≤ 1000) (hr : downH ⟨a, sc, dy, td, st, nx, pr⟩ now k = ⟨a, sc', dy', td', st', nx', pr'⟩) :
    Calls Try.prog 17 #[.agg #[.string a, .int .i64 sc, .int .i64 dy, .int .i64 td, .int .i64 st, .int .i64 nx, .int .i64 pr], .int .i64 now, .bool k] w fun e w' => e = .returned (.agg #[.string a, .int .i64 sc', .int .i64 dy', .int .i64 td', .int .i64 st', .int .i64 nx', .int .i64 pr']) ∧ Bel w w' :=
  Down_h ⟨a, sc, dy, td, st, nx, pr⟩ ⟨a, sc', dy', td', st', nx', pr'⟩ now k w ok hp0 hp1 hr
set_option maxHeartbeats 1000000 in
theorem small_any (w : World) : Calls Try.prog 7 #[] w fun e w' => e = .returned (.bool true) ∧ Bel w w' := by
  go_enter Try.func7, Try.ntmps7
  go_wp2_with fail
  refine (New_any ⟨#[97, 64, 120]⟩ _).mono ?_
  rintro e w1 ⟨rfl, hb1⟩
  go_wp2_with fail
  refine (Bounce_at ⟨#[97, 64, 120]⟩ 0 (-1) 0 0 0 0 1000 0 1000 0 0 0 0 true _ (by simp [HOk]) (by simp [bounceH, sc1, td1, susp]; decide)).mono ?_
  rintro e w2 ⟨rfl, hb2⟩
  go_wp2_with fail
  refine (Bounce_at ⟨#[97, 64, 120]⟩ 1000 0 1000 0 0 0 2000 1 1000 0 0 0 86400000 true _ (by simp [HOk]) (by simp [bounceH, sc1, td1, susp]; decide)).mono ?_
  rintro e w3 ⟨rfl, hb3⟩
  have xc00 : w3.cell? ⟨w2.heap.size, 0, none⟩ = some (.string ⟨#[97, 64, 120]⟩) := bget hb3 (by go_size) (by go_cell)
  have xf00 : w3.frozen? ⟨w2.heap.size, 0, none⟩ = false := bfrz hb3 (by go_size) (by first | (with_reducible assumption) | (go_simp; done) | (simp [*]; done))
  have xc01 : w3.cell? ⟨w2.heap.size, 1, none⟩ = some (.int .i64 1000) := bget hb3 (by go_size) (by go_cell)
  have xf01 : w3.frozen? ⟨w2.heap.size, 1, none⟩ = false := bfrz hb3 (by go_size) (by first | (with_reducible assumption) | (go_simp; done) | (simp [*]; done))
  have xc02 : w3.cell? ⟨w2.heap.size, 2, none⟩ = some (.int .i64 0) := bget hb3 (by go_size) (by go_cell)
  have xf02 : w3.frozen? ⟨w2.heap.size, 2, none⟩ = false := bfrz hb3 (by go_size) (by first | (with_reducible assumption) | (go_simp; done) | (simp [*]; done))
  have xc03 : w3.cell? ⟨w2.heap.size, 3, none⟩ = some (.int .i64 1000) := bget hb3 (by go_size) (by go_cell)
  have xf03 : w3.frozen? ⟨w2.heap.size, 3, none⟩ = false := bfrz hb3 (by go_size) (by first | (with_reducible assumption) | (go_simp; done) | (simp [*]; done))
  have xc04 : w3.cell? ⟨w2.heap.size, 4, none⟩ = some (.int .i64 0) := bget hb3 (by go_size) (by go_cell)
  have xf04 : w3.frozen? ⟨w2.heap.size, 4, none⟩ = false := bfrz hb3 (by go_size) (by first | (with_reducible assumption) | (go_simp; done) | (simp [*]; done))
  have xc05 : w3.cell? ⟨w2.heap.size, 5, none⟩ = some (.int .i64 0) := bget hb3 (by go_size) (by go_cell)
  have xf05 : w3.frozen? ⟨w2.heap.size, 5, none⟩ = false := bfrz hb3 (by go_size) (by first | (with_reducible assumption) | (go_simp; done) | (simp [*]; done))
  have xc06 : w3.cell? ⟨w2.heap.size, 6, none⟩ = some (.int .i64 0) := bget hb3 (by go_size) (by go_cell)
  have xf06 : w3.frozen? ⟨w2.heap.size, 6, none⟩ = false := bfrz hb3 (by go_size) (by first | (with_reducible assumption) | (go_simp; done) | (simp [*]; done))
  have xz0 : w2.heap.size < w3.heap.size := bsize hb3 (by go_size)
  go_wp2_with fail
  refine (Bounce_at ⟨#[97, 64, 120]⟩ 2000 1 1000 0 0 0 3000 2 1000 1 259200005 0 172800005 true _ (by simp [HOk]) (by simp [bounceH, sc1, td1, susp]; decide)).mono ?_
  rintro e w4 ⟨rfl, hb4⟩
  have yc00 : w4.cell? ⟨w2.heap.size, 0, none⟩ = some (.string ⟨#[97, 64, 120]⟩) := bget hb4 (by go_size) (by go_cell)
  have yf00 : w4.frozen? ⟨w2.heap.size, 0, none⟩ = false := bfrz hb4 (by go_size) (by first | (with_reducible assumption) | (go_simp; done) | (simp [*]; done))
  have yc01 : w4.cell? ⟨w2.heap.size, 1, none⟩ = some (.int .i64 2000) := bget hb4 (by go_size) (by go_cell)
  have yf01 : w4.frozen? ⟨w2.heap.size, 1, none⟩ = false := bfrz hb4 (by go_size) (by first | (with_reducible assumption) | (go_simp; done) | (simp [*]; done))
  have yc02 : w4.cell? ⟨w2.heap.size, 2, none⟩ = some (.int .i64 1) := bget hb4 (by go_size) (by go_cell)
  have yf02 : w4.frozen? ⟨w2.heap.size, 2, none⟩ = false := bfrz hb4 (by go_size) (by first | (with_reducible assumption) | (go_simp; done) | (simp [*]; done))
  have yc03 : w4.cell? ⟨w2.heap.size, 3, none⟩ = some (.int .i64 1000) := bget hb4 (by go_size) (by go_cell)
  have yf03 : w4.frozen? ⟨w2.heap.size, 3, none⟩ = false := bfrz hb4 (by go_size) (by first | (with_reducible assumption) | (go_simp; done) | (simp [*]; done))
  have yc04 : w4.cell? ⟨w2.heap.size, 4, none⟩ = some (.int .i64 0) := bget hb4 (by go_size) (by go_cell)
  have yf04 : w4.frozen? ⟨w2.heap.size, 4, none⟩ = false := bfrz hb4 (by go_size) (by first | (with_reducible assumption) | (go_simp; done) | (simp [*]; done))
  have yc05 : w4.cell? ⟨w2.heap.size, 5, none⟩ = some (.int .i64 0) := bget hb4 (by go_size) (by go_cell)
  have yf05 : w4.frozen? ⟨w2.heap.size, 5, none⟩ = false := bfrz hb4 (by go_size) (by first | (with_reducible assumption) | (go_simp; done) | (simp [*]; done))
  have yc06 : w4.cell? ⟨w2.heap.size, 6, none⟩ = some (.int .i64 0) := bget hb4 (by go_size) (by go_cell)
  have yf06 : w4.frozen? ⟨w2.heap.size, 6, none⟩ = false := bfrz hb4 (by go_size) (by first | (with_reducible assumption) | (go_simp; done) | (simp [*]; done))
  have yz0 : w2.heap.size < w4.heap.size := bsize hb4 (by go_size)
  go_wp2_with fail
  refine (Tick_at ⟨#[97, 64, 120]⟩ 3000 2 1000 1 259200005 0 3000 2 1000 2 864000005 0 259200005 true _ (by simp [HOk]) (by omega) (by omega) (by simp [tickH]) (by simp [tickP])).mono ?_
  rintro e w5 ⟨rfl, hb5⟩
  have zc00 : w5.cell? ⟨w2.heap.size, 0, none⟩ = some (.string ⟨#[97, 64, 120]⟩) := bget hb5 (by go_size) (by go_cell)
  have zf00 : w5.frozen? ⟨w2.heap.size, 0, none⟩ = false := bfrz hb5 (by go_size) (by first | (with_reducible assumption) | (go_simp; done) | (simp [*]; done))
  have zc01 : w5.cell? ⟨w2.heap.size, 1, none⟩ = some (.int .i64 3000) := bget hb5 (by go_size) (by go_cell)
  have zf01 : w5.frozen? ⟨w2.heap.size, 1, none⟩ = false := bfrz hb5 (by go_size) (by first | (with_reducible assumption) | (go_simp; done) | (simp [*]; done))
  have zc02 : w5.cell? ⟨w2.heap.size, 2, none⟩ = some (.int .i64 2) := bget hb5 (by go_size) (by go_cell)
  have zf02 : w5.frozen? ⟨w2.heap.size, 2, none⟩ = false := bfrz hb5 (by go_size) (by first | (with_reducible assumption) | (go_simp; done) | (simp [*]; done))
  have zc03 : w5.cell? ⟨w2.heap.size, 3, none⟩ = some (.int .i64 1000) := bget hb5 (by go_size) (by go_cell)
  have zf03 : w5.frozen? ⟨w2.heap.size, 3, none⟩ = false := bfrz hb5 (by go_size) (by first | (with_reducible assumption) | (go_simp; done) | (simp [*]; done))
  have zc04 : w5.cell? ⟨w2.heap.size, 4, none⟩ = some (.int .i64 1) := bget hb5 (by go_size) (by go_cell)
  have zf04 : w5.frozen? ⟨w2.heap.size, 4, none⟩ = false := bfrz hb5 (by go_size) (by first | (with_reducible assumption) | (go_simp; done) | (simp [*]; done))
  have zc05 : w5.cell? ⟨w2.heap.size, 5, none⟩ = some (.int .i64 259200005) := bget hb5 (by go_size) (by go_cell)
  have zf05 : w5.frozen? ⟨w2.heap.size, 5, none⟩ = false := bfrz hb5 (by go_size) (by first | (with_reducible assumption) | (go_simp; done) | (simp [*]; done))
  have zc06 : w5.cell? ⟨w2.heap.size, 6, none⟩ = some (.int .i64 0) := bget hb5 (by go_size) (by go_cell)
  have zf06 : w5.frozen? ⟨w2.heap.size, 6, none⟩ = false := bfrz hb5 (by go_size) (by first | (with_reducible assumption) | (go_simp; done) | (simp [*]; done))
  have zz0 : w2.heap.size < w5.heap.size := bsize hb5 (by go_size)
  go_wp2_with fail
  refine (Down_at ⟨#[97, 64, 120]⟩ 3000 2 1000 2 864000005 0 0 2 1000 0 0 0 259200006 true _ (by simp [HOk]) (by omega) (by omega) (by simp [downH])).mono ?_
  rintro e w6 ⟨rfl, hb6⟩
  have uc00 : w6.cell? ⟨w2.heap.size, 0, none⟩ = some (.string ⟨#[97, 64, 120]⟩) := bget hb6 (by go_size) (by go_cell)
  have uf00 : w6.frozen? ⟨w2.heap.size, 0, none⟩ = false := bfrz hb6 (by go_size) (by first | (with_reducible assumption) | (go_simp; done) | (simp [*]; done))
  have uc01 : w6.cell? ⟨w2.heap.size, 1, none⟩ = some (.int .i64 3000) := bget hb6 (by go_size) (by go_cell)
  have uf01 : w6.frozen? ⟨w2.heap.size, 1, none⟩ = false := bfrz hb6 (by go_size) (by first | (with_reducible assumption) | (go_simp; done) | (simp [*]; done))
  have uc02 : w6.cell? ⟨w2.heap.size, 2, none⟩ = some (.int .i64 2) := bget hb6 (by go_size) (by go_cell)
  have uf02 : w6.frozen? ⟨w2.heap.size, 2, none⟩ = false := bfrz hb6 (by go_size) (by first | (with_reducible assumption) | (go_simp; done) | (simp [*]; done))
  have uc03 : w6.cell? ⟨w2.heap.size, 3, none⟩ = some (.int .i64 1000) := bget hb6 (by go_size) (by go_cell)
  have uf03 : w6.frozen? ⟨w2.heap.size, 3, none⟩ = false := bfrz hb6 (by go_size) (by first | (with_reducible assumption) | (go_simp; done) | (simp [*]; done))
  have uc04 : w6.cell? ⟨w2.heap.size, 4, none⟩ = some (.int .i64 2) := bget hb6 (by go_size) (by go_cell)
  have uf04 : w6.frozen? ⟨w2.heap.size, 4, none⟩ = false := bfrz hb6 (by go_size) (by first | (with_reducible assumption) | (go_simp; done) | (simp [*]; done))
  have uc05 : w6.cell? ⟨w2.heap.size, 5, none⟩ = some (.int .i64 864000005) := bget hb6 (by go_size) (by go_cell)
  have uf05 : w6.frozen? ⟨w2.heap.size, 5, none⟩ = false := bfrz hb6 (by go_size) (by first | (with_reducible assumption) | (go_simp; done) | (simp [*]; done))
  have uc06 : w6.cell? ⟨w2.heap.size, 6, none⟩ = some (.int .i64 0) := bget hb6 (by go_size) (by go_cell)
  have uf06 : w6.frozen? ⟨w2.heap.size, 6, none⟩ = false := bfrz hb6 (by go_size) (by first | (with_reducible assumption) | (go_simp; done) | (simp [*]; done))
  have uz0 : w2.heap.size < w6.heap.size := bsize hb6 (by go_size)
  have hs1 := hb1.size
  have hs2 := hb2.size
  go_wp2_with fail
  go_ret
  refine ⟨rfl, ?_⟩
  have hb0 : Below w.heap.size w w2 := by
    repeat (first | with_reducible exact Below.refl _ _ | with_reducible assumption | (with_reducible refine balloc ?_) | (with_reducible refine bdrew ?_) | (with_reducible refine bdrewN ?_) | (with_reducible refine bset ?_ (by first | omega | (simp; done) | (simp; omega))) | (with_reducible refine bnext ?_ (by assumption)))
  have hw2 : w.heap.size ≤ w2.heap.size := hb0.size
  repeat (first | with_reducible exact Below.refl _ _ | with_reducible assumption | (with_reducible refine balloc ?_) | (with_reducible refine bdrew ?_) | (with_reducible refine bdrewN ?_) | (with_reducible refine bset ?_ (by first | omega | (simp; done) | (simp; omega))) | (with_reducible refine bnext ?_ (by assumption)))
end Go.Proofs.Ytnbfmmnbjjeecac

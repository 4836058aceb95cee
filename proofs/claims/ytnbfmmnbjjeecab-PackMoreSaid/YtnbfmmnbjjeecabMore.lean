/- missivelaw35.PackMore: the walk. -/
import Derived.Test.YtnbfmmnbjjeecabTells
import Derived.Test.YtnbfmmnbjjeecabMoreLaw
import Derived.Test.YtnbfmmnbjjeecabStep
import Derived.Deep.DeepCutAuto
namespace Go.Proofs.Ytnbfmmnbjjeecab
open Go.RowKit Go.Shelf
set_option linter.unusedVariables false
theorem R_of {b h : Int} (hb : 0 < b) (hb2 : b ≤ 9223372036854775807) (hh : h ≤ 9223372036854775807) : wrap64 (b - pos h) = b - pos h := by
  have h1 := pos_bd h; have h2 : pos h ≤ 9223372036854775807 := by unfold pos; omega
  exact IntWalk.wrap64_in _ ⟨by omega, by omega⟩
theorem own_empty (w : World) (b base : Nat) (hb : w.heap.size = b) (h : base ≤ b) : (w.alloc (.cells #[] 3)).ownsRow base 3 1 (.slice (some ⟨b, 0, none⟩) 0 0) 0 [] := by
  subst hb; exact World.ownsRow_made w #[] 0 h (Nat.zero_le _) rfl
theorem cell_new1 (w : World) (v : Value) (T b : Nat) (hb : w.heap.size = b) : (w.alloc (.cells #[v] T)).cell? ⟨b, 0, none⟩ = some v := by
  subst hb; have := heap_alloc_new w (.cells #[v] T); simp only [World.cell?]; rw [this]; rfl
theorem cell_src {w : World} {b : Nat} {v : Value} (h : w.cell? ⟨b, 0, none⟩ = some v) : ∀ (j : Nat) u, [v][j]? = some u → w.cell? ((⟨b, 0, none⟩ : Addr).add j) = some u := by
  intro j u hu
  rcases j with _ | j
  · simp at hu; subst hu; rw [Addr.add_lit]; exact h
  · simp at hu
theorem cell_drew' {w : World} {a : Addr} {v : Value} (h : w.cell? a = some v) : w.drew.cell? a = some v := h
theorem cell_alloc' {w : World} {b o : Nat} {ob : Obj} {v : Value} (h : w.cell? ⟨b, o, none⟩ = some v) : (w.alloc ob).cell? ⟨b, o, none⟩ = some v := bget ((Below.refl _ _).alloc (Nat.le_refl _) _) (World.block_lt_of_cell? w _ h) h
theorem changed_parts {w : World} {bs os len cap k : Nat} {l : List Int} (h : Sl w 1 (.slice (some ⟨bs, os, none⟩) len cap) len (cells64 l)) (hl : l.length = len) (hk : k < len) :
    Sl w 1 (.slice (some ⟨bs, os, none⟩) k cap) k (cells64 (l.take k)) ∧ (¬ cap = k + 1 → Sl w 1 (.slice (some ⟨bs, os + (k + 1), none⟩) (len - (k + 1)) (cap - (k + 1))) (len - (k + 1)) (cells64 (l.drop (k + 1)))) ∧ (cap = k + 1 → Sl w 1 (.slice (some ⟨bs, os, none⟩) (len - (k + 1)) (cap - (k + 1))) (len - (k + 1)) (cells64 (l.drop (k + 1)))) := by
  obtain ⟨a, cp, hv, h1, h2⟩ := h.cut (l := 0) (u := k) (Nat.zero_le _) (by omega)
  obtain ⟨a', cp', hv', h1', h2'⟩ := h.cut (l := k + 1) (u := len) (by omega) (Nat.le_refl _)
  injection hv with e1 e2 e3
  injection hv' with e1' e2' e3'
  subst e1 e3 e1' e3'
  have e : (cells64 l).take (len * 1) = cells64 l := by rw [cells64_take, List.take_of_length_le (by omega)]
  rw [cells64_take] at h2
  rw [e, cells64_drop] at h2'
  refine ⟨by simpa [sliced, Addr.add_lit] using h2, fun hc => ?_, fun hc => ?_⟩
  · simpa [sliced, hc, Addr.add_lit] using h2'
  · simpa [sliced, hc] using h2'
theorem isDiv_cut {w : World} {b o n cap k : Nat} {gs : List (List Int)} (h : IsDiv w (.slice (some ⟨b, o, none⟩) n cap) gs) (hk : k < gs.length) : IsDiv w (.slice (some ⟨b, o + k, none⟩) 1 (cap - k)) [gs.getD k []] := by
  obtain ⟨vs, h1, h2⟩ := h
  obtain ⟨a, cp, hv, h3, h4⟩ := h1.cut (l := k) (u := k + 1) (by omega) hk
  injection hv with e1 e2 e3
  subst e1 e3
  have hvl : vs.length = gs.length := by have := h1.length; omega
  have hck : ¬ cap = k := by omega
  simp only [sliced, if_neg hck, Nat.mul_one, Option.map_some, Addr.add_lit, show k + 1 - k = 1 by omega] at h4
  refine ⟨_, h4, fun i g hg => ?_⟩
  rcases i with _ | i
  · simp at hg
    subst hg
    have h5 : gs[k]? = some (gs.getD k []) := by rw [List.getD_eq_getElem?_getD, List.getElem?_eq_getElem hk]; rfl
    obtain ⟨u, h6, h7⟩ := h2 k _ h5
    refine ⟨u, ?_, by simpa using h7⟩
    rw [List.getElem?_drop, List.getElem?_take_of_lt (by omega)]
    exact h6
  · simp at hg
theorem Same_same (va vb : Value) (A : List (List Int)) (w : World) (hA : IsDiv w va A) (hB : IsDiv w vb A) :
    Calls Try.prog 8 #[va, vb] w fun e w' => e = .returned (.bool true) ∧ Bel w w' := by
  have h := Same_any va vb A A w hA hB
  rwa [decide_eq_true rfl] at h
set_option maxRecDepth 100000 in
set_option maxHeartbeats 4000000 in
theorem PackMore_in (a : Option Addr) (len cap : Nat) (l : List Int) (b h other less at_ size : Int) (w : World) (hl : l.length = len) (wb : -9223372036854775808 ≤ b ∧ b ≤ 9223372036854775807) (wh : -9223372036854775808 ≤ h ∧ h ≤ 9223372036854775807) (wo : -9223372036854775808 ≤ other ∧ other ≤ 9223372036854775807) (wl : -9223372036854775808 ≤ less ∧ less ≤ 9223372036854775807) (wa : -9223372036854775808 ≤ at_ ∧ at_ ≤ 9223372036854775807) (ws : -9223372036854775808 ≤ size ∧ size ≤ 9223372036854775807) (hm : len ≤ 2 ^ 63 - 1) (hS : Sl w 1 (.slice a len cap) len (cells64 l)) :
    Calls Try.prog 6 #[.slice a len cap, .int .i64 b, .int .i64 h, .int .i64 other, .int .i64 less, .int .i64 at_, .int .i64 size] w fun e w' => e = .returned (.bool true) ∧ Bel w w' := by
  obtain ⟨i3, hi3, hz30, hz31, hz32⟩ := info_parts info3'
  replace hl := Lib.hid hl
  have hskip : (300 < len ∨ b < 1 ∨ other < b ∨ h < less) ∨ (len ≤ 300 ∧ 1 ≤ b ∧ b ≤ other ∧ less ≤ h) := by omega
  rcases hskip with hskip | ⟨h300, hb1, hob, hlh⟩
  · rcases hskip with c | c | c | c
    all_goals
      go_enter Try.func6, Try.ntmps6
      go_wp2_with fail
      refine (small_any _).mono ?_
      rintro e W1 ⟨rfl, b1⟩
      go_wp2_with fail
      all_goals
        go_ret
        exact ⟨rfl, b1⟩
  · go_enter Try.func6, Try.ntmps6
    go_wp2_with fail
    refine (small_any _).mono ?_
    rintro e W1 ⟨rfl, b1⟩
    have S1 := hS.below b1
    clear hS
    obtain ⟨G, hG⟩ : ∃ G, (fin l b (b - pos h)).length = G := ⟨_, rfl⟩
    obtain ⟨gs, hgs⟩ : ∃ gs, (fin l b (b - pos h)).map rng = gs := ⟨_, rfl⟩
    have hGs : Hid (gs.length = G) := by rw [← hgs, ← hG, List.length_map]; exact rfl
    have e1 : Hid ((fin l other (wrap64 (other - pos h))).length ≤ G) := by
      rw [R_of (by omega) wo.2 wh.2, ← hG]; exact fin_mono rfl (by omega) (by omega) (fun _ => Int.le_refl _)
    have e2 : Hid ((fin l b (wrap64 (b - pos less))).length ≤ G) := by
      rw [R_of (by omega) wb.2 wl.2, ← hG]; exact fin_mono rfl (by omega) (by unfold pos; omega) (fun _ => Int.le_refl _)
    replace hG := Lib.hid hG
    replace hgs := Lib.hid hgs
    go_wp2_with fail
    refine (Pack_any a len cap l b h _ hl.out h300 S1).mono ?_
    rw [R_of (by omega) wb.2 wh.2, hgs.out]
    rintro e W2 ⟨⟨v1, rfl, d1⟩, b2⟩
    have S2 := S1.below b2
    have B2 : Below w.heap.size w W2 := by repeat (first | with_reducible exact Below.refl _ _ | with_reducible assumption | (with_reducible refine balloc ?_) | (with_reducible refine bdrew ?_) | (with_reducible refine bdrewN ?_) | (with_reducible refine bset ?_ (by first | omega | (simp; done) | (simp; omega))) | (with_reducible refine bnext ?_ (by assumption)))
    clear b1 b2 S1
    obtain ⟨a1, cp1, rfl, hv1, hv2⟩ := d1.val
    rw [hGs.out] at hv1 ⊢
    unfold maxLen at hv2
    go_wp2_with fail
    refine (Pack_any a len cap l other h _ hl.out h300 S2).mono ?_
    rintro e W3 ⟨⟨v3, rfl, d3⟩, b3⟩
    have B3 : Below w.heap.size w W3 := by repeat (first | with_reducible exact Below.refl _ _ | with_reducible assumption | (with_reducible refine balloc ?_) | (with_reducible refine bdrew ?_) | (with_reducible refine bdrewN ?_) | (with_reducible refine bset ?_ (by first | omega | (simp; done) | (simp; omega))) | (with_reducible refine bnext ?_ (by assumption)))
    have d1' := d1.below b3
    have S3 := S2.below b3
    obtain ⟨a3, cp3, rfl, hv3, hv4⟩ := d3.val
    rw [List.length_map] at hv3 ⊢
    obtain ⟨G3, hG3⟩ : ∃ G3, (fin l other (wrap64 (other - pos h))).length = G3 := ⟨_, rfl⟩
    rw [hG3] at e1 hv3 ⊢
    have e1' := e1.out
    unfold maxLen at hv4
    clear d3 b3 S2 d1 B2 hG3 e1
    go_wp2_with fail
    refine (Pack_any a len cap l b less _ hl.out h300 S3).mono ?_
    rintro e W4 ⟨⟨v4, rfl, d4⟩, b4⟩
    have B4 : Below w.heap.size w W4 := by repeat (first | with_reducible exact Below.refl _ _ | with_reducible assumption | (with_reducible refine balloc ?_) | (with_reducible refine bdrew ?_) | (with_reducible refine bdrewN ?_) | (with_reducible refine bset ?_ (by first | omega | (simp; done) | (simp; omega))) | (with_reducible refine bnext ?_ (by assumption)))
    have d1 := d1'.below b4
    have S4 := S3.below b4
    obtain ⟨a4, cp4, rfl, hv5, hv6⟩ := d4.val
    rw [List.length_map] at hv5 ⊢
    obtain ⟨G4, hG4⟩ : ∃ G4, (fin l b (wrap64 (b - pos less))).length = G4 := ⟨_, rfl⟩
    rw [hG4] at e2 hv5 ⊢
    have e2' := e2.out
    unfold maxLen at hv6
    clear d4 b4 S3 d1' B3 hG4 e2
    obtain ⟨q, hq⟩ : ∃ q, decide (0 ≤ at_ ∧ at_ < len ∧ size ≤ l.getD at_.toNat 0) = q := ⟨_, rfl⟩
    have hways : (at_ < 0 ∧ q = false) ∨ (0 ≤ at_ ∧ len ≤ at_ ∧ q = false) ∨ (0 ≤ at_ ∧ at_ < len ∧ l.getD at_.toNat 0 < size ∧ q = false) ∨ (0 ≤ at_ ∧ at_ < len ∧ size ≤ l.getD at_.toNat 0 ∧ q = true) := by
      rw [← hq]; simp; omega
    replace hq := Lib.hid hq
    go_upto_region 7 with fail
    go_cut [76] (fun t wx => t = .bool q ∧ wx = W4)
    case first =>
      rcases hways with ⟨c1, rfl⟩ | ⟨c1, c2, rfl⟩ | ⟨c1, c2, c3, rfl⟩ | ⟨c1, c2, c3, rfl⟩
      · go_wp2_with fail
        go_meet
        case rel => exact ⟨rfl, rfl⟩
      · go_wp2_with fail
        go_meet
        case rel => exact ⟨rfl, rfl⟩
      all_goals
        obtain ⟨k, rfl⟩ : ∃ k : Nat, at_ = k := ⟨at_.toNat, by omega⟩
        rw [Int.toNat_natCast] at c3
        have hk : k < len := by omega
        obtain ⟨bs, os, hax, hbs, hcs⟩ := S4.num (by omega)
        subst hax
        have hck := hcs k hk
        obtain ⟨y, hy⟩ : ∃ y, l.getD k 0 = y := ⟨_, rfl⟩
        rw [hy] at hck c3
        clear hcs
        replace hy := Lib.hid hy
        go_wp2_with fail
        go_meet
        case rel => exact ⟨by first | rfl | (simp; omega), rfl⟩
    case rest =>
      obtain ⟨rfl, rfl⟩ := hcut
      obtain ⟨W5, rfl⟩ : ∃ W5 : World, W5 = wc := ⟨_, rfl⟩
      go_upto_if 76 with fail
      go_cut [] (fun wx => Below W5.heap.size W5 wx)
      case first =>
        cases q
        · go_wp2_with fail
          go_meet
          case rel => exact Below.refl _ _
        · have hq2 := hq.out
          simp only [decide_eq_true_eq] at hq2
          obtain ⟨c1, c2, c3⟩ := hq2
          clear hways
          obtain ⟨k, rfl⟩ : ∃ k : Nat, at_ = k := ⟨at_.toNat, by omega⟩
          rw [Int.toNat_natCast] at c3
          have hk : k < len := by omega
          obtain ⟨bs, os, hax, hbs, hcs⟩ := S4.num (by omega)
          subst hax
          clear hcs
          replace c3 := Lib.hid c3
          obtain ⟨hlc, hcm⟩ : len ≤ cap ∧ cap ≤ maxLen := by
            obtain ⟨_, _, hv, h1, h2⟩ := S4.val
            injection hv with _ _ hv
            subst hv; exact ⟨h1, h2⟩
          unfold maxLen at hcm
          have i1 : (0 : Int) ≤ (k : Int) := by omega
          have i2 : (k : Int) ≤ (cap : Int) := by omega
          have i3' : (0 : Int) ≤ (k : Int) + 1 := by omega
          have i4 : (k : Int) + 1 ≤ (len : Int) := by omega
          have i5 : (len : Int) ≤ (cap : Int) := by omega
          have i6 : IntKind.i64.wrap ((k : Int) + 1) = (k : Int) + 1 := IntWalk.i64_in _ (by omega)
          have i7 : ((k : Int) + 1).toNat = k + 1 := by omega
          obtain ⟨T1, T2, T3⟩ := changed_parts S4 hl.out hk
          replace S4 := Lib.hid S4
          replace d1 := Lib.hid d1
          go_upto_region 8 with fail
          go_cut [17] (fun v wx => wx.ownsRow W5.heap.size 3 1 v len (cells64 (changed l k size)) ∧ Below W5.heap.size W5 wx)
          case first =>
            by_cases hcap : cap = k + 1
            · obtain rfl : len = k + 1 := by omega
              subst hcap
              have T2' := T3 rfl
              rw [Nat.sub_self] at T2'
              have j2 : (k : Int) ≤ (k : Int) + 1 := by omega
              have j3 : k ≤ k + 1 := by omega
              go_region_held3 (fun w' => True) (trivial) (first
                | (refine step_append_src (o := ⟨some 81, _, _, _, _, _⟩) rfl (.tmp 77) (.tmp 80) 22 22 ?_ W5.heap.size 3 i3 (.int .i64 0) 1 8 Try.underlying22 hi3 hz30 hz31 hz32 rfl (by decide) (.slice (some ⟨W5.heap.size, 0, none⟩) 0 0) (0) ([]) ?_ ?_ (.slice (some ⟨bs, os, none⟩) k (k + 1)) ?_ (k) (cells64 (l.take k)) ?_ (by unfold maxLen; omega) (by omega) ?_ ?_; rfl; rfl; (repeat (first | (with_reducible exact own_empty _ _ _ (by simp) (by omega)) | (with_reducible refine World.ownsRow.drew ?_) | (with_reducible refine World.ownsRow.alloc ?_ _))); rfl; (refine Src.ofSl Try.underlying22 ?_ (cells64_one _); (repeat (first | (with_reducible exact T1) | (with_reducible refine Sl.drew ?_) | (with_reducible refine Sl.alloc ?_ _)))); (simp; try omega); intro v1 w1 own1 gr1 hat1 _; simp only [Nat.zero_add, List.nil_append] at own1; have hb1 : Below W5.heap.size W5 w1 := (by refine below_row (B := W5.heap.size) ?_ (base := W5.heap.size) (e := 3) (s := 1) (n := 0) (xs := []) ?_ (Nat.le_refl _) (by simp; try omega) gr1; (repeat (first | (with_reducible exact Below.refl _ _) | (with_reducible refine balloc ?_) | (with_reducible refine bdrew ?_))); (repeat (first | (with_reducible exact own_empty _ _ _ (by simp) (by omega)) | (with_reducible refine World.ownsRow.drew ?_) | (with_reducible refine World.ownsRow.alloc ?_ _)))); try (refine (fun (hX : w1.cell? ⟨W5.heap.size + 1, 0, none⟩ = some (.int .i64 size)) => ?_) ?_; rotate_left; · (refine (gr1.cell_far ⟨W5.heap.size + 1, 0, none⟩ ?_ ?_).trans ?_; (simp; try omega); (simp [Value.ownBlock]); (repeat (first | (with_reducible exact cell_new1 _ _ _ _ (by simp)) | (with_reducible refine cell_drew' ?_) | (with_reducible refine cell_alloc' ?_))))); clear gr1 hat1)
                | (refine step_append_src (o := ⟨some 81, _, _, _, _, _⟩) rfl (.tmp 77) (.tmp 80) 22 22 ?_ W5.heap.size 3 i3 (.int .i64 0) 1 8 Try.underlying22 hi3 hz30 hz31 hz32 rfl (by decide) (.slice (some ⟨W5.heap.size + 1, 0, none⟩) 0 0) (0) ([]) ?_ ?_ (.slice (some ⟨bs, os, none⟩) k (k + 1)) ?_ (k) (cells64 (l.take k)) ?_ (by unfold maxLen; omega) (by omega) ?_ ?_; rfl; rfl; (repeat (first | (with_reducible exact own_empty _ _ _ (by simp) (by omega)) | (with_reducible refine World.ownsRow.drew ?_) | (with_reducible refine World.ownsRow.alloc ?_ _))); rfl; (refine Src.ofSl Try.underlying22 ?_ (cells64_one _); (repeat (first | (with_reducible exact T1) | (with_reducible refine Sl.drew ?_) | (with_reducible refine Sl.alloc ?_ _)))); (simp; try omega); intro v1 w1 own1 gr1 hat1 _; simp only [Nat.zero_add, List.nil_append] at own1; have hb1 : Below W5.heap.size W5 w1 := (by refine below_row (B := W5.heap.size) ?_ (base := W5.heap.size) (e := 3) (s := 1) (n := 0) (xs := []) ?_ (Nat.le_refl _) (by simp; try omega) gr1; (repeat (first | (with_reducible exact Below.refl _ _) | (with_reducible refine balloc ?_) | (with_reducible refine bdrew ?_))); (repeat (first | (with_reducible exact own_empty _ _ _ (by simp) (by omega)) | (with_reducible refine World.ownsRow.drew ?_) | (with_reducible refine World.ownsRow.alloc ?_ _)))); try (refine (fun (hX : w1.cell? ⟨W5.heap.size, 0, none⟩ = some (.int .i64 size)) => ?_) ?_; rotate_left; · (refine (gr1.cell_far ⟨W5.heap.size, 0, none⟩ ?_ ?_).trans ?_; (simp; try omega); (simp [Value.ownBlock]); (repeat (first | (with_reducible exact cell_new1 _ _ _ _ (by simp)) | (with_reducible refine cell_drew' ?_) | (with_reducible refine cell_alloc' ?_))))); clear gr1 hat1)
                | (refine step_append_src (o := ⟨some 84, _, _, _, _, _⟩) rfl (.tmp 81) (.tmp 83) 22 22 ?_ W5.heap.size 3 i3 (.int .i64 0) 1 8 Try.underlying22 hi3 hz30 hz31 hz32 rfl (by decide) (v1) (k) (cells64 (l.take k)) ?_ ?_ (.slice (some ⟨w1.heap.size, 0, none⟩) 1 1) ?_ (1) ([.int .i64 size]) ?_ (by unfold maxLen; omega) (by omega) ?_ ?_; rfl; rfl; (repeat (first | (with_reducible exact own1) | (with_reducible refine World.ownsRow.drew ?_) | (with_reducible refine World.ownsRow.alloc ?_ _))); rfl; (refine Src.ofSlice _ Try.underlying22 ⟨w1.heap.size, 0, none⟩ 1 1 [.int .i64 size] rfl (cell_src ?_) (by simp [Value.oneCell']); (repeat (first | (with_reducible exact cell_new1 _ _ _ _ (by simp)) | (with_reducible refine cell_drew' ?_) | (with_reducible refine cell_alloc' ?_)))); (have := hb1.size; simp; try omega); intro v2 w2 own2 gr2 hat2 _; have hb2 : Below W5.heap.size W5 w2 := (by refine below_row (B := W5.heap.size) ?_ (base := W5.heap.size) (e := 3) (s := 1) (n := k) (xs := cells64 (l.take k)) ?_ (Nat.le_refl _) (by have := hb1.size; simp; try omega) gr2; (repeat (first | (with_reducible exact hb1) | (with_reducible refine balloc ?_) | (with_reducible refine bdrew ?_))); (repeat (first | (with_reducible exact own1) | (with_reducible refine World.ownsRow.drew ?_) | (with_reducible refine World.ownsRow.alloc ?_ _)))); clear gr2 hat2 own1 hb1)
                | (refine step_append_src (o := ⟨some 84, _, _, _, _, _⟩) rfl (.tmp 81) (.tmp 83) 22 22 ?_ W5.heap.size 3 i3 (.int .i64 0) 1 8 Try.underlying22 hi3 hz30 hz31 hz32 rfl (by decide) (v1) (k) (cells64 (l.take k)) ?_ ?_ (.slice (some ⟨W5.heap.size + 1, 0, none⟩) 1 1) ?_ (1) ([.int .i64 size]) ?_ (by unfold maxLen; omega) (by omega) ?_ ?_; rfl; rfl; (repeat (first | (with_reducible exact own1) | (with_reducible refine World.ownsRow.drew ?_) | (with_reducible refine World.ownsRow.alloc ?_ _))); rfl; (refine Src.ofSlice _ Try.underlying22 ⟨W5.heap.size + 1, 0, none⟩ 1 1 [.int .i64 size] rfl (cell_src ?_) (by simp [Value.oneCell']); (repeat (first | (with_reducible exact hX) | (with_reducible refine cell_drew' ?_) | (with_reducible refine cell_alloc' ?_)))); (have := hb1.size; simp; try omega); intro v2 w2 own2 gr2 hat2 _; have hb2 : Below W5.heap.size W5 w2 := (by refine below_row (B := W5.heap.size) ?_ (base := W5.heap.size) (e := 3) (s := 1) (n := k) (xs := cells64 (l.take k)) ?_ (Nat.le_refl _) (by have := hb1.size; simp; try omega) gr2; (repeat (first | (with_reducible exact hb1) | (with_reducible refine balloc ?_) | (with_reducible refine bdrew ?_))); (repeat (first | (with_reducible exact own1) | (with_reducible refine World.ownsRow.drew ?_) | (with_reducible refine World.ownsRow.alloc ?_ _)))); clear gr2 hat2 own1 hb1)
                | (refine step_append_src (o := ⟨some 84, _, _, _, _, _⟩) rfl (.tmp 81) (.tmp 83) 22 22 ?_ W5.heap.size 3 i3 (.int .i64 0) 1 8 Try.underlying22 hi3 hz30 hz31 hz32 rfl (by decide) (v1) (k) (cells64 (l.take k)) ?_ ?_ (.slice (some ⟨W5.heap.size, 0, none⟩) 1 1) ?_ (1) ([.int .i64 size]) ?_ (by unfold maxLen; omega) (by omega) ?_ ?_; rfl; rfl; (repeat (first | (with_reducible exact own1) | (with_reducible refine World.ownsRow.drew ?_) | (with_reducible refine World.ownsRow.alloc ?_ _))); rfl; (refine Src.ofSlice _ Try.underlying22 ⟨W5.heap.size, 0, none⟩ 1 1 [.int .i64 size] rfl (cell_src ?_) (by simp [Value.oneCell']); (repeat (first | (with_reducible exact hX) | (with_reducible refine cell_drew' ?_) | (with_reducible refine cell_alloc' ?_)))); (have := hb1.size; simp; try omega); intro v2 w2 own2 gr2 hat2 _; have hb2 : Below W5.heap.size W5 w2 := (by refine below_row (B := W5.heap.size) ?_ (base := W5.heap.size) (e := 3) (s := 1) (n := k) (xs := cells64 (l.take k)) ?_ (Nat.le_refl _) (by have := hb1.size; simp; try omega) gr2; (repeat (first | (with_reducible exact hb1) | (with_reducible refine balloc ?_) | (with_reducible refine bdrew ?_))); (repeat (first | (with_reducible exact own1) | (with_reducible refine World.ownsRow.drew ?_) | (with_reducible refine World.ownsRow.alloc ?_ _)))); clear gr2 hat2 own1 hb1)
                | (refine step_append_src (o := ⟨some 89, _, _, _, _, _⟩) rfl (.tmp 84) (.tmp 88) 22 22 ?_ W5.heap.size 3 i3 (.int .i64 0) 1 8 Try.underlying22 hi3 hz30 hz31 hz32 rfl (by decide) (v2) (k + 1) (cells64 (l.take k) ++ [.int .i64 size]) ?_ ?_ (.slice (some ⟨bs, os, none⟩) 0 0) ?_ (0) (cells64 (l.drop (k + 1))) ?_ (by unfold maxLen; omega) (by omega) ?_ ?_; rfl; rfl; (repeat (first | (with_reducible exact own2) | (with_reducible refine World.ownsRow.drew ?_) | (with_reducible refine World.ownsRow.alloc ?_ _))); rfl; (refine Src.ofSl Try.underlying22 ?_ (cells64_one _); (repeat (first | (with_reducible exact T2'.below hb2) | (with_reducible refine Sl.drew ?_) | (with_reducible refine Sl.alloc ?_ _)))); (have := hb2.size; simp; try omega); intro v3 w3 own3 gr3 hat3 _; have hb3 : Below W5.heap.size W5 w3 := (by refine below_row (B := W5.heap.size) ?_ (base := W5.heap.size) (e := 3) (s := 1) (n := k + 1) (xs := cells64 (l.take k) ++ [.int .i64 size]) ?_ (Nat.le_refl _) (by have := hb2.size; simp; try omega) gr3; (repeat (first | (with_reducible exact hb2) | (with_reducible refine balloc ?_) | (with_reducible refine bdrew ?_))); (repeat (first | (with_reducible exact own2) | (with_reducible refine World.ownsRow.drew ?_) | (with_reducible refine World.ownsRow.alloc ?_ _)))); clear gr3 hat3 own2 hb2))
              all_goals
                have own := own3
                rw [show k + 1 + 0 = k + 1 by omega] at own
                have hcs : cells64 (l.take k) ++ [.int .i64 size] ++ cells64 (l.drop (k + 1)) = cells64 (changed l k size) := by simp [changed, cells64]
                rw [hcs] at own
                clear own3 hcs
                go_wp2_with fail
                go_meet
                case rel => exact ⟨own, hb3⟩
            · have hcap' : ¬ cap = k + 1 := hcap
              have T2' := T2 hcap'
              go_region_held3 (fun w' => True) (trivial) (first
                | (refine step_append_src (o := ⟨some 81, _, _, _, _, _⟩) rfl (.tmp 77) (.tmp 80) 22 22 ?_ W5.heap.size 3 i3 (.int .i64 0) 1 8 Try.underlying22 hi3 hz30 hz31 hz32 rfl (by decide) (.slice (some ⟨W5.heap.size, 0, none⟩) 0 0) (0) ([]) ?_ ?_ (.slice (some ⟨bs, os, none⟩) k cap) ?_ (k) (cells64 (l.take k)) ?_ (by unfold maxLen; omega) (by omega) ?_ ?_; rfl; rfl; (repeat (first | (with_reducible exact own_empty _ _ _ (by simp) (by omega)) | (with_reducible refine World.ownsRow.drew ?_) | (with_reducible refine World.ownsRow.alloc ?_ _))); rfl; (refine Src.ofSl Try.underlying22 ?_ (cells64_one _); (repeat (first | (with_reducible exact T1) | (with_reducible refine Sl.drew ?_) | (with_reducible refine Sl.alloc ?_ _)))); (simp; try omega); intro v1 w1 own1 gr1 hat1 _; simp only [Nat.zero_add, List.nil_append] at own1; have hb1 : Below W5.heap.size W5 w1 := (by refine below_row (B := W5.heap.size) ?_ (base := W5.heap.size) (e := 3) (s := 1) (n := 0) (xs := []) ?_ (Nat.le_refl _) (by simp; try omega) gr1; (repeat (first | (with_reducible exact Below.refl _ _) | (with_reducible refine balloc ?_) | (with_reducible refine bdrew ?_))); (repeat (first | (with_reducible exact own_empty _ _ _ (by simp) (by omega)) | (with_reducible refine World.ownsRow.drew ?_) | (with_reducible refine World.ownsRow.alloc ?_ _)))); try (refine (fun (hX : w1.cell? ⟨W5.heap.size + 1, 0, none⟩ = some (.int .i64 size)) => ?_) ?_; rotate_left; · (refine (gr1.cell_far ⟨W5.heap.size + 1, 0, none⟩ ?_ ?_).trans ?_; (simp; try omega); (simp [Value.ownBlock]); (repeat (first | (with_reducible exact cell_new1 _ _ _ _ (by simp)) | (with_reducible refine cell_drew' ?_) | (with_reducible refine cell_alloc' ?_))))); clear gr1 hat1)
                | (refine step_append_src (o := ⟨some 81, _, _, _, _, _⟩) rfl (.tmp 77) (.tmp 80) 22 22 ?_ W5.heap.size 3 i3 (.int .i64 0) 1 8 Try.underlying22 hi3 hz30 hz31 hz32 rfl (by decide) (.slice (some ⟨W5.heap.size + 1, 0, none⟩) 0 0) (0) ([]) ?_ ?_ (.slice (some ⟨bs, os, none⟩) k cap) ?_ (k) (cells64 (l.take k)) ?_ (by unfold maxLen; omega) (by omega) ?_ ?_; rfl; rfl; (repeat (first | (with_reducible exact own_empty _ _ _ (by simp) (by omega)) | (with_reducible refine World.ownsRow.drew ?_) | (with_reducible refine World.ownsRow.alloc ?_ _))); rfl; (refine Src.ofSl Try.underlying22 ?_ (cells64_one _); (repeat (first | (with_reducible exact T1) | (with_reducible refine Sl.drew ?_) | (with_reducible refine Sl.alloc ?_ _)))); (simp; try omega); intro v1 w1 own1 gr1 hat1 _; simp only [Nat.zero_add, List.nil_append] at own1; have hb1 : Below W5.heap.size W5 w1 := (by refine below_row (B := W5.heap.size) ?_ (base := W5.heap.size) (e := 3) (s := 1) (n := 0) (xs := []) ?_ (Nat.le_refl _) (by simp; try omega) gr1; (repeat (first | (with_reducible exact Below.refl _ _) | (with_reducible refine balloc ?_) | (with_reducible refine bdrew ?_))); (repeat (first | (with_reducible exact own_empty _ _ _ (by simp) (by omega)) | (with_reducible refine World.ownsRow.drew ?_) | (with_reducible refine World.ownsRow.alloc ?_ _)))); try (refine (fun (hX : w1.cell? ⟨W5.heap.size, 0, none⟩ = some (.int .i64 size)) => ?_) ?_; rotate_left; · (refine (gr1.cell_far ⟨W5.heap.size, 0, none⟩ ?_ ?_).trans ?_; (simp; try omega); (simp [Value.ownBlock]); (repeat (first | (with_reducible exact cell_new1 _ _ _ _ (by simp)) | (with_reducible refine cell_drew' ?_) | (with_reducible refine cell_alloc' ?_))))); clear gr1 hat1)
                | (refine step_append_src (o := ⟨some 84, _, _, _, _, _⟩) rfl (.tmp 81) (.tmp 83) 22 22 ?_ W5.heap.size 3 i3 (.int .i64 0) 1 8 Try.underlying22 hi3 hz30 hz31 hz32 rfl (by decide) (v1) (k) (cells64 (l.take k)) ?_ ?_ (.slice (some ⟨w1.heap.size, 0, none⟩) 1 1) ?_ (1) ([.int .i64 size]) ?_ (by unfold maxLen; omega) (by omega) ?_ ?_; rfl; rfl; (repeat (first | (with_reducible exact own1) | (with_reducible refine World.ownsRow.drew ?_) | (with_reducible refine World.ownsRow.alloc ?_ _))); rfl; (refine Src.ofSlice _ Try.underlying22 ⟨w1.heap.size, 0, none⟩ 1 1 [.int .i64 size] rfl (cell_src ?_) (by simp [Value.oneCell']); (repeat (first | (with_reducible exact cell_new1 _ _ _ _ (by simp)) | (with_reducible refine cell_drew' ?_) | (with_reducible refine cell_alloc' ?_)))); (have := hb1.size; simp; try omega); intro v2 w2 own2 gr2 hat2 _; have hb2 : Below W5.heap.size W5 w2 := (by refine below_row (B := W5.heap.size) ?_ (base := W5.heap.size) (e := 3) (s := 1) (n := k) (xs := cells64 (l.take k)) ?_ (Nat.le_refl _) (by have := hb1.size; simp; try omega) gr2; (repeat (first | (with_reducible exact hb1) | (with_reducible refine balloc ?_) | (with_reducible refine bdrew ?_))); (repeat (first | (with_reducible exact own1) | (with_reducible refine World.ownsRow.drew ?_) | (with_reducible refine World.ownsRow.alloc ?_ _)))); clear gr2 hat2 own1 hb1)
                | (refine step_append_src (o := ⟨some 84, _, _, _, _, _⟩) rfl (.tmp 81) (.tmp 83) 22 22 ?_ W5.heap.size 3 i3 (.int .i64 0) 1 8 Try.underlying22 hi3 hz30 hz31 hz32 rfl (by decide) (v1) (k) (cells64 (l.take k)) ?_ ?_ (.slice (some ⟨W5.heap.size + 1, 0, none⟩) 1 1) ?_ (1) ([.int .i64 size]) ?_ (by unfold maxLen; omega) (by omega) ?_ ?_; rfl; rfl; (repeat (first | (with_reducible exact own1) | (with_reducible refine World.ownsRow.drew ?_) | (with_reducible refine World.ownsRow.alloc ?_ _))); rfl; (refine Src.ofSlice _ Try.underlying22 ⟨W5.heap.size + 1, 0, none⟩ 1 1 [.int .i64 size] rfl (cell_src ?_) (by simp [Value.oneCell']); (repeat (first | (with_reducible exact hX) | (with_reducible refine cell_drew' ?_) | (with_reducible refine cell_alloc' ?_)))); (have := hb1.size; simp; try omega); intro v2 w2 own2 gr2 hat2 _; have hb2 : Below W5.heap.size W5 w2 := (by refine below_row (B := W5.heap.size) ?_ (base := W5.heap.size) (e := 3) (s := 1) (n := k) (xs := cells64 (l.take k)) ?_ (Nat.le_refl _) (by have := hb1.size; simp; try omega) gr2; (repeat (first | (with_reducible exact hb1) | (with_reducible refine balloc ?_) | (with_reducible refine bdrew ?_))); (repeat (first | (with_reducible exact own1) | (with_reducible refine World.ownsRow.drew ?_) | (with_reducible refine World.ownsRow.alloc ?_ _)))); clear gr2 hat2 own1 hb1)
                | (refine step_append_src (o := ⟨some 84, _, _, _, _, _⟩) rfl (.tmp 81) (.tmp 83) 22 22 ?_ W5.heap.size 3 i3 (.int .i64 0) 1 8 Try.underlying22 hi3 hz30 hz31 hz32 rfl (by decide) (v1) (k) (cells64 (l.take k)) ?_ ?_ (.slice (some ⟨W5.heap.size, 0, none⟩) 1 1) ?_ (1) ([.int .i64 size]) ?_ (by unfold maxLen; omega) (by omega) ?_ ?_; rfl; rfl; (repeat (first | (with_reducible exact own1) | (with_reducible refine World.ownsRow.drew ?_) | (with_reducible refine World.ownsRow.alloc ?_ _))); rfl; (refine Src.ofSlice _ Try.underlying22 ⟨W5.heap.size, 0, none⟩ 1 1 [.int .i64 size] rfl (cell_src ?_) (by simp [Value.oneCell']); (repeat (first | (with_reducible exact hX) | (with_reducible refine cell_drew' ?_) | (with_reducible refine cell_alloc' ?_)))); (have := hb1.size; simp; try omega); intro v2 w2 own2 gr2 hat2 _; have hb2 : Below W5.heap.size W5 w2 := (by refine below_row (B := W5.heap.size) ?_ (base := W5.heap.size) (e := 3) (s := 1) (n := k) (xs := cells64 (l.take k)) ?_ (Nat.le_refl _) (by have := hb1.size; simp; try omega) gr2; (repeat (first | (with_reducible exact hb1) | (with_reducible refine balloc ?_) | (with_reducible refine bdrew ?_))); (repeat (first | (with_reducible exact own1) | (with_reducible refine World.ownsRow.drew ?_) | (with_reducible refine World.ownsRow.alloc ?_ _)))); clear gr2 hat2 own1 hb1)
                | (refine step_append_src (o := ⟨some 89, _, _, _, _, _⟩) rfl (.tmp 84) (.tmp 88) 22 22 ?_ W5.heap.size 3 i3 (.int .i64 0) 1 8 Try.underlying22 hi3 hz30 hz31 hz32 rfl (by decide) (v2) (k + 1) (cells64 (l.take k) ++ [.int .i64 size]) ?_ ?_ (.slice (some ⟨bs, os + (k + 1), none⟩) (len - (k + 1)) (cap - (k + 1))) ?_ (len - (k + 1)) (cells64 (l.drop (k + 1))) ?_ (by unfold maxLen; omega) (by omega) ?_ ?_; rfl; rfl; (repeat (first | (with_reducible exact own2) | (with_reducible refine World.ownsRow.drew ?_) | (with_reducible refine World.ownsRow.alloc ?_ _))); rfl; (refine Src.ofSl Try.underlying22 ?_ (cells64_one _); (repeat (first | (with_reducible exact T2'.below hb2) | (with_reducible refine Sl.drew ?_) | (with_reducible refine Sl.alloc ?_ _)))); (have := hb2.size; simp; try omega); intro v3 w3 own3 gr3 hat3 _; have hb3 : Below W5.heap.size W5 w3 := (by refine below_row (B := W5.heap.size) ?_ (base := W5.heap.size) (e := 3) (s := 1) (n := k + 1) (xs := cells64 (l.take k) ++ [.int .i64 size]) ?_ (Nat.le_refl _) (by have := hb2.size; simp; try omega) gr3; (repeat (first | (with_reducible exact hb2) | (with_reducible refine balloc ?_) | (with_reducible refine bdrew ?_))); (repeat (first | (with_reducible exact own2) | (with_reducible refine World.ownsRow.drew ?_) | (with_reducible refine World.ownsRow.alloc ?_ _)))); clear gr3 hat3 own2 hb2))
              all_goals
                have own := own3
                rw [show k + 1 + (len - (k + 1)) = len by omega] at own
                have hcs : cells64 (l.take k) ++ [.int .i64 size] ++ cells64 (l.drop (k + 1)) = cells64 (changed l k size) := by simp [changed, cells64]
                rw [hcs] at own
                clear own3 hcs
                go_wp2_with fail
                go_meet
                case rel => exact ⟨own, hb3⟩
          case rest =>
            obtain ⟨own, hb⟩ := hcut
            obtain ⟨W6, rfl⟩ : ∃ W6 : World, W6 = wc := ⟨_, rfl⟩
            have Sc := Sl.of_own own
            have hszb := hb.size
            rcases own_cases own with ⟨_, h0⟩ | ⟨gg, gc, rfl, hg1, hg2, hg3, hg4⟩
            · omega
            · have e5 : (fin (changed l k size) b (b - pos h)).length ≤ G := by
                rw [← hG.out]
                exact fin_mono (changed_length (by rw [hl.out]; exact hk)) (by omega) (Int.le_refl _) (changed_pos (by rw [hl.out]; exact hk) c3.out)
              clear own hg3 hg4 hg2
              replace e5 := Lib.hid e5
              go_wp2_with fail
              refine (Pack_any _ len gc (changed l k size) b h _ (by rw [changed_length (by rw [hl.out]; exact hk)]; exact hl.out) h300 Sc).mono ?_
              rw [R_of (by omega) wb.2 wh.2]
              rintro e W7 ⟨⟨v7, rfl, d7⟩, b7⟩
              have B7 : Below W5.heap.size W5 W7 := hb.trans (b7.mono hb.size)
              obtain ⟨a7, cp7, rfl, hv7, hv8⟩ := d7.val
              rw [List.length_map] at hv7 ⊢
              obtain ⟨G7, hG7⟩ : ∃ G7, (fin (changed l k size) b (b - pos h)).length = G7 := ⟨_, rfl⟩
              rw [hG7] at e5 hv7 ⊢
              have e5' := e5.out
              unfold maxLen at hv8
              clear d7 b7 hG7 e5 Sc hb
              go_wp2_with fail
              go_meet
              case rel => exact B7
      case rest =>
        obtain ⟨W6, rfl⟩ : ∃ W6 : World, W6 = wc := ⟨_, rfl⟩
        have S6 := S4.below hcut
        have d6 := d1.below hcut
        have B6 : Below w.heap.size w W6 := B4.trans (hcut.mono B4.size)
        clear S4 d1 B4 hcut
        by_cases h0 : len = 0
        · subst h0
          have hG0 : G = 0 := by
            rw [← hG.out, fin, if_pos hl.out]; rfl
          subst hG0
          go_wp2_with fail
          go_ret
          exact ⟨rfl, B6⟩
        · obtain ⟨n, rfl⟩ : ∃ n, len = n + 1 := ⟨len - 1, by omega⟩
          have hP : Prefix gs ((fin (l.take n) b (b - pos h)).map rng) := by rw [← hgs.out]; exact fin_take hl.out
          obtain ⟨ms, hms⟩ : ∃ ms, (fin (l.take n) b (b - pos h)).map rng = ms := ⟨_, rfl⟩
          rw [hms] at hP
          replace hms := Lib.hid hms
          obtain ⟨hP1, hP2, hP3⟩ := hP
          rw [hGs.out] at hP1 hP2 hP3
          replace hP3 := Lib.hid hP3
          obtain ⟨bs, os, hax, hbs, hcs⟩ := S6.num (by omega)
          subst hax
          clear hcs
          obtain ⟨hlc, hcm⟩ : n + 1 ≤ cap ∧ cap ≤ maxLen := by
            obtain ⟨_, _, hv, h1, h2⟩ := S6.val
            injection hv with _ _ hv
            subst hv; exact ⟨h1, h2⟩
          unfold maxLen at hcm
          have hnc : (n : Int) ≤ (cap : Int) := by omega
          obtain ⟨T1, _, _⟩ := changed_parts S6 hl.out (Nat.lt_succ_self n)
          clear S6
          go_wp2_with fail
          refine (Pack_any _ n cap (l.take n) b h _ (by have := hl.out; simp; omega) (by omega) T1).mono ?_
          rw [R_of (by omega) wb.2 wh.2, hms.out]
          rintro e W8 ⟨⟨v8, rfl, d8⟩, b8⟩
          have d9 := d6.below b8
          have B8 : Below w.heap.size w W8 := B6.trans (b8.mono B6.size)
          clear d6 b8 T1 B6
          obtain ⟨a8, cp8, rfl, hv9, hv10⟩ := d8.val
          obtain ⟨M, hM⟩ : ∃ M, ms.length = M := ⟨_, rfl⟩
          rw [hM] at hP2 hv9 ⊢
          replace hM := Lib.hid hM
          unfold maxLen at hv10
          have hg0 : ((G : Int) == 0) = false := by simp; omega
          have hPx : (M = G ∧ ((M : Int) != (G : Int)) = false) ∨ (((M : Int) != (G : Int)) = true ∧ ((M : Int) != (G : Int) - 1) = false ∧ M + 1 = G) := by
            rcases hP2 with h1 | h1
            · exact .inl ⟨h1, by simp; omega⟩
            · exact .inr ⟨by simp; omega, by simp; omega, h1⟩
          replace hP3 : ∀ i, i + 1 < G → i < M ∧ ms.getD i [] = gs.getD i [] := fun i hi => by have := hP3.out i hi; rw [hM.out] at this; exact this
          replace hP3 := Lib.hid hP3
          replace hP2 : M ≤ G ∧ G ≤ M + 1 := by omega
          rcases hPx with ⟨hx, k1⟩ | ⟨k1, k2, hx⟩
          all_goals
            clear hx
            go_wp2_with fail
            go_loopw [19] (fun i wr => ∃ k : Nat, k + 1 ≤ G ∧ i = .int .i64 k ∧ Below W8.heap.size W8 wr) (fun i _ => G - (intOf i).toNat)
            case atStart => exact ⟨0, by omega, rfl, Below.refl _ _⟩
            case round =>
              obtain ⟨k, hk, rfl, hBr⟩ := hrel
              by_cases hkG : k + 1 < G
              · obtain ⟨hkM, hgk⟩ := hP3.out k hkG
                have hl8 := d8.length_le
                obtain ⟨b8, o8, c8, hv8, _, _⟩ := d8.at (by rw [hM.out]; omega)
                obtain ⟨b1, o1, c1, hv1', _, _⟩ := d9.at (by rw [hGs.out]; omega)
                injection hv8 with e8 _ e8'
                injection hv1' with e9 _ e9'
                subst e8 e9
                have hA := (isDiv_cut d8 (k := k) (by rw [hM.out]; exact hkM)).below hBr
                have hB := (isDiv_cut d9 (k := k) (by rw [hGs.out]; omega)).below hBr
                rw [← hgk] at hB
                clear hgk e8' e9' hl8
                have hB2 : Below w.heap.size w wr := B8.trans (hBr.mono B8.size)
                have j0 : decide ((M : Int) ≤ (k : Int)) = false := by simp; omega
                have j01 : decide (M ≤ k) = false := by simp; omega
                have j1 : k + 1 ≤ cp8 := by omega
                have j2 : k + 1 ≤ cp1 := by omega
                have j3 : ¬ cp8 = k := by omega
                have j4 : ¬ cp1 = k := by omega
                have hA' : ∀ s : BelOf wr, IsDiv s.1 _ _ := fun s => hA.below s.2
                have hB' : ∀ s : BelOf wr, IsDiv s.1 _ _ := fun s => hB.below s.2
                go_wp2_with fail
                refine wp_region_bel (by kernel_rfl) (by kernel_rfl) ?_
                repeat (go_big_quiet_step (first | (go_at_call 8; exact Calls.bel_of (Same_same _ _ _ _ (hA' _) (hB' _)))))
                refine wpQuiet_nil ?_
                rintro _ ⟨s, rfl⟩
                have hBs := hBr.trans (s.2.mono hBr.size)
                go_wp2_with fail
                go_roundw
                case rel => exact ⟨k + 1, by omega, by go_num, hBs⟩
                case measure => simp [intOf]; omega
              · have hB2 : Below w.heap.size w wr := B8.trans (hBr.mono B8.size)
                go_wp2_with fail
                go_ret
                exact ⟨rfl, hB2⟩
theorem PackMore_walk (a : Option Addr) (len cap : Nat) (zs : List Int) (b h other less at_ size : Int) (w : World) (hr : IsRow .i64 w a len cap zs) (wb : (Lit.int .i64 b).wf = true) (wh : (Lit.int .i64 h).wf = true) (wo : (Lit.int .i64 other).wf = true) (wl : (Lit.int .i64 less).wf = true) (wa : (Lit.int .i64 at_).wf = true) (ws : (Lit.int .i64 size).wf = true) :
    Calls Try.prog 6 #[.slice a len cap, .int .i64 b, .int .i64 h, .int .i64 other, .int .i64 less, .int .i64 at_, .int .i64 size] w fun e w' => e = .returned (.bool true) ∧ Bel w w' := by
  obtain ⟨hl, hm⟩ := row_len hr
  unfold maxLen at hm
  exact PackMore_in a len cap _ b h other less at_ size w hl (bd_of_wf wb) (bd_of_wf wh) (bd_of_wf wo) (bd_of_wf wl) (bd_of_wf wa) (bd_of_wf ws) hm (isRow_sl hr)
end Go.Proofs.Ytnbfmmnbjjeecab

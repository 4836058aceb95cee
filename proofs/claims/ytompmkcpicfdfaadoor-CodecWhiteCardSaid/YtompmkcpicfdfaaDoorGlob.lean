/- package text: Glob. -/
import Derived.Test.YtompmkcpicfdfaaDoorGlobLaw
namespace Go.Proofs.YtompmkcpicfdfaaDoor
open Go.RowKit
set_option linter.unusedVariables false
def globM (P N p : Nat) (bk : Nat) : Nat := (N - bk) * (P + 1) + (P - p)
theorem globM_on {P N p bk bk' : Nat} (hb : bk ≤ bk') (hp : p < P) : globM P N (p + 1) bk' < globM P N p bk := by
  unfold globM
  have h1 : (N - bk') * (P + 1) ≤ (N - bk) * (P + 1) := Nat.mul_le_mul_right _ (by omega)
  omega
theorem globM_back {P N p st bk : Nat} (hb : bk < N) (hs : st ≤ P) : globM P N st (bk + 1) < globM P N p bk := by
  unfold globM
  obtain ⟨d, hd⟩ : ∃ d, N - bk = d + 1 := ⟨N - bk - 1, by omega⟩
  rw [hd, show N - (bk + 1) = d by omega, Nat.add_mul, Nat.one_mul]
  omega
theorem idx_at (t : ByteArray) (k : Nat) (h : k < t.size) (c : UInt8) (hc : t.data.toList.getD k 0 = c) (W : World) : (Instr.index 9 (.string t) (.int .i64 k)).run Tryd.prog W = .ok (.int .u8 c.toNat) W := by
  rw [str_getD t k h] at hc
  subst hc
  simp [go_sem, Tryd.underlying9, h]
theorem u8_ne {c d : UInt8} (h : c ≠ d) : ((c.toNat : Int) == (d.toNat : Int)) = false := by
  rw [beq_eq_false_iff_ne]; exact fun e => h (u8_int.1 e)
set_option maxHeartbeats 4000000 in
theorem Glob_any (a b : ByteArray) (w : World) (ha : a.size ≤ 140737488355328) (hb : b.size ≤ 140737488355328) :
    Calls Tryd.prog 35 #[.string a, .string b] w fun e w' => e = .returned (.bool (gm (low a.data.toList) (low b.data.toList))) ∧ Below w.heap.size w w' := by
  obtain ⟨G, hG⟩ : ∃ G, gm (low a.data.toList) (low b.data.toList) = G := ⟨_, rfl⟩
  rw [hG]
  replace hG := Lib.hid hG
  go_enter Tryd.func35, Tryd.ntmps35
  go_wp2_with fail
  refine (Lower_any a _ (by unfold maxLen; omega)).mono ?_
  rintro e W1 ⟨⟨t, rfl, ht⟩, b1⟩
  go_wp2_with fail
  refine (Lower_any b _ (by unfold maxLen; omega)).mono ?_
  rintro e W2 ⟨⟨u, rfl, hu⟩, b2⟩
  have hts : t.size = a.size := by rw [← str_size t, ht, low_length, str_size]
  have hus : u.size = b.size := by rw [← str_size u, hu, low_length, str_size]
  have ht2 : t.size ≤ 140737488355328 := by omega
  have hu2 : u.size ≤ 140737488355328 := by omega
  have hB : Below w.heap.size w W2 := b1.trans (b2.mono b1.size)
  have hG2 : Hid (gm t.data.toList u.data.toList = G) := by show _ = _; rw [ht, hu]; exact hG.out
  clear b1 b2 ht hu hts hus
  go_wp2_with fail
  go_loopw [5, 6, 7, 8] (fun star back p i wr => Below w.heap.size w wr ∧ ∃ (P I : Nat) (st : Int) (bk : Nat), P ≤ t.size ∧ I ≤ u.size ∧ bk ≤ I ∧ star = .int .i64 st ∧ back = .int .i64 bk ∧ p = .int .i64 P ∧ i = .int .i64 I ∧ (-1 ≤ st ∧ st ≤ P) ∧ Hid (GlobAt t.data.toList u.data.toList G P I st bk)) (fun _ back p _ _ => globM t.size u.size (intOf p).toNat (intOf back).toNat)
  case atStart => exact ⟨hB, 0, 0, -1, 0, by omega, by omega, by omega, rfl, rfl, rfl, rfl, by omega, .inl ⟨rfl, hG2.out.symm⟩⟩
  case round =>
    obtain ⟨hBr, P, I, st, bk, hP, hI, hbk, rfl, rfl, rfl, rfl, ⟨hs1, hs2⟩, hat⟩ := hrel
    obtain ⟨c, hc⟩ : ∃ c, t.data.toList.getD P 0 = c := ⟨_, rfl⟩
    obtain ⟨d, hd⟩ : ∃ d, u.data.toList.getD I 0 = d := ⟨_, rfl⟩
    have hx : P < t.size → ∀ W, (Instr.index 9 (.string t) (.int .i64 P)).run Tryd.prog W = .ok (.int .u8 c.toNat) W := fun h W => idx_at t P h c hc W
    have hy : I < u.size → ∀ W, (Instr.index 9 (.string u) (.int .i64 I)).run Tryd.prog W = .ok (.int .u8 d.toNat) W := fun h W => idx_at u I h d hd W
    have htl := str_size t
    have hul := str_size u
    have hways : (P < t.size ∧ c = 42) ∨ (I = u.size ∧ P = t.size) ∨ (I < u.size ∧ P < t.size ∧ c ≠ 42 ∧ c = 63) ∨ (I < u.size ∧ P < t.size ∧ c ≠ 42 ∧ c ≠ 63 ∧ c = d) ∨ (P = t.size ∧ I < u.size) ∨ (P < t.size ∧ c ≠ 42 ∧ I = u.size) ∨ (P < t.size ∧ c ≠ 42 ∧ c ≠ 63 ∧ I < u.size ∧ c ≠ d) := by
      by_cases h1 : P < t.size
      · by_cases h2 : c = 42
        · exact .inl ⟨h1, h2⟩
        · by_cases h3 : I < u.size
          · by_cases h4 : c = 63
            · exact .inr (.inr (.inl ⟨h3, h1, h2, h4⟩))
            · by_cases h5 : c = d
              · exact .inr (.inr (.inr (.inl ⟨h3, h1, h2, h4, h5⟩)))
              · exact .inr (.inr (.inr (.inr (.inr (.inr ⟨h1, h2, h4, h3, h5⟩)))))
          · exact .inr (.inr (.inr (.inr (.inr (.inl ⟨h1, h2, by omega⟩)))))
      · by_cases h3 : I < u.size
        · exact .inr (.inr (.inr (.inr (.inl ⟨by omega, h3⟩))))
        · exact .inr (.inl ⟨by omega, by omega⟩)
    rcases hways with ⟨h1, h2⟩ | ⟨h1, h2⟩ | ⟨h1, h2, h3, h4⟩ | ⟨h1, h2, h3, h4, h5⟩ | hmis
    · have hn := glob_star hat.out (by rw [htl]; exact h1) (by rw [hul]; exact hI) (by rw [hc]; exact h2)
      replace hn := Lib.hid hn
      have hx1 := hx h1
      subst h2
      clear hx hy hat
      replace hc := Lib.hid hc
      replace hd := Lib.hid hd
      go_wp2_with fail
      go_roundw
      case rel => exact ⟨hBr, P + 1, I, ((P + 1 : Nat) : Int), I, by omega, by omega, by omega, by go_num, rfl, by go_num, rfl, by omega, hn.out⟩
      case measure => simp only [intOf]; exact globM_on hbk h1
    · have hn := glob_true hat.out (by rw [htl]; exact h2) (by rw [hul]; exact h1)
      subst hn
      clear hx hy hat hc hd
      have k1 : decide ((P : Int) < (t.size : Int)) = false := by simp; omega
      have k2 : ((I : Int) == (u.size : Int)) = true := by simp; omega
      have k3 : ((P : Int) == (t.size : Int)) = true := by simp; omega
      go_wp2_with fail
      go_ret
      exact ⟨rfl, hBr⟩
    · have hn := glob_step hat.out (by rw [htl]; exact h2) (by rw [hul]; exact h1) (by rw [hc]; exact h3) (.inl (by rw [hc]; exact h4))
      replace hn := Lib.hid hn
      have hx1 := hx h2
      have hy1 := hy h1
      subst h4
      clear hx hy hat
      replace hc := Lib.hid hc
      replace hd := Lib.hid hd
      have k1 : ((I : Int) == (u.size : Int)) = false := by simp; omega
      have k2 : decide ((I : Int) < (u.size : Int)) = true := by simp; omega
      have k3 : decide (I < u.size) = true := by simp; omega
      have k4 : decide ((P : Int) < (t.size : Int)) = true := by simp; omega
      have k5 : decide (P < t.size) = true := by simp; omega
      go_wp2_with fail
      go_quiet (fail)
      have hB2 := bdrewN (n := nq) hBr
      go_wp2_with fail
      go_roundw
      case rel => exact ⟨hB2, P + 1, I + 1, st, bk, by omega, by omega, by omega, rfl, rfl, by go_num, by go_num, by omega, hn.out⟩
      case measure => simp only [intOf]; exact globM_on (Nat.le_refl _) h2
    · have hn := glob_step hat.out (by rw [htl]; exact h2) (by rw [hul]; exact h1) (by rw [hc]; exact h3) (.inr (by rw [hc, hd]; exact h5))
      replace hn := Lib.hid hn
      have hx1 := hx h2
      have hy1 := hy h1
      subst h5
      clear hx hy hat
      replace hc := Lib.hid hc
      replace hd := Lib.hid hd
      have k1 : ((I : Int) == (u.size : Int)) = false := by simp; omega
      have k2 : decide ((I : Int) < (u.size : Int)) = true := by simp; omega
      have k3 : decide (I < u.size) = true := by simp; omega
      have k4 : decide ((P : Int) < (t.size : Int)) = true := by simp; omega
      have k5 : decide (P < t.size) = true := by simp; omega
      have k6 : ((c.toNat : Int) == 42) = false := u8_ne h3
      have k7 : ((c.toNat : Int) == 63) = false := u8_ne h4
      have k8 : ((c.toNat : Int) == (c.toNat : Int)) = true := by simp
      replace h3 := Lib.hid h3
      replace h4 := Lib.hid h4
      go_wp2_with fail
      go_quiet (fail)
      have hB2 := bdrewN (n := nq) hBr
      go_wp2_with fail
      go_roundw
      case rel => exact ⟨hB2, P + 1, I + 1, st, bk, by omega, by omega, by omega, rfl, rfl, by go_num, by go_num, by omega, hn.out⟩
      case measure => simp only [intOf]; exact globM_on (Nat.le_refl _) h2
    · have hmiss : Hid (gm (t.data.toList.drop P) (u.data.toList.drop I) = false) := by
        refine glob_miss ?_
        rw [htl, hul, hc, hd]; exact hmis
      have hgo : (st < 0) ∨ (0 ≤ st ∧ bk < u.size) ∨ (0 ≤ st ∧ bk = u.size) := by omega
      have hend : (st < 0 ∨ bk = u.size) → Hid (G = false) := fun h => glob_false hat.out hmiss.out (by rw [hul]; omega)
      have hback : (h1 : 0 ≤ st) → (h2 : bk < u.size) → Hid (GlobAt t.data.toList u.data.toList G st.toNat (bk + 1) st (bk + 1)) := fun h1 h2 => by
        rcases hat.out with ⟨h3, _⟩ | ⟨s0, h3, h4⟩
        · omega
        · have := glob_back h4 hmiss.out (by rw [hul]; exact h2)
          show GlobAt _ _ _ _ _ _ _
          rw [h3, Int.toNat_natCast]; exact this
      replace hc := Lib.hid hc
      replace hd := Lib.hid hd
      clear hmiss hat
      rcases hgo with g1 | ⟨g1, g2⟩ | ⟨g1, g2⟩ <;> rcases hmis with ⟨m1, m2⟩ | ⟨m1, m2, m3⟩ | ⟨m1, m2, m3, m4, m5⟩
      · have hv := hend (.inl g1)
        clear hend hback
        have q1 : decide ((0 : Int) ≤ st) = false := by simp; omega
        have hy1 := hy m2
        have j1 : ((I : Int) == (u.size : Int)) = false := by simp; omega
        have j2 : decide ((I : Int) < (u.size : Int)) = true := by simp; omega
        have j3 : decide (I < u.size) = true := by simp; omega
        have j4 : decide ((P : Int) < (t.size : Int)) = false := by simp; omega
        have j5 : decide (P < t.size) = false := by simp; omega
        have j6 : ((P : Int) == (t.size : Int)) = true := by simp; omega
        clear hx hy
        replace m1 := Lib.hid m1
        go_wp2_with fail
        go_quiet (fail)
        have hB2 := bdrewN (n := nq) hBr
        go_wp2_with fail
        go_ret
        exact ⟨by rw [hv.out]; rfl, hB2⟩
      · have hv := hend (.inl g1)
        clear hend hback
        have q1 : decide ((0 : Int) ≤ st) = false := by simp; omega
        have hx1 := hx m1
        have j1 : ((I : Int) == (u.size : Int)) = true := by simp; omega
        have j2 : decide ((I : Int) < (u.size : Int)) = false := by simp; omega
        have j3 : decide (I < u.size) = false := by simp; omega
        have j4 : decide ((P : Int) < (t.size : Int)) = true := by simp; omega
        have j5 : decide (P < t.size) = true := by simp; omega
        have j6 : ((P : Int) == (t.size : Int)) = false := by simp; omega
        have j7 : ((c.toNat : Int) == 42) = false := u8_ne m2
        clear hx hy
        replace m2 := Lib.hid m2
        replace m3 := Lib.hid m3
        go_wp2_with fail
        go_quiet (fail)
        have hB2 := bdrewN (n := nq) hBr
        go_wp2_with fail
        go_ret
        exact ⟨by rw [hv.out]; rfl, hB2⟩
      · have hv := hend (.inl g1)
        clear hend hback
        have q1 : decide ((0 : Int) ≤ st) = false := by simp; omega
        have hx1 := hx m1
        have hy1 := hy m4
        have j1 : ((I : Int) == (u.size : Int)) = false := by simp; omega
        have j2 : decide ((I : Int) < (u.size : Int)) = true := by simp; omega
        have j3 : decide (I < u.size) = true := by simp; omega
        have j4 : decide ((P : Int) < (t.size : Int)) = true := by simp; omega
        have j5 : decide (P < t.size) = true := by simp; omega
        have j6 : ((P : Int) == (t.size : Int)) = false := by simp; omega
        have j7 : ((c.toNat : Int) == 42) = false := u8_ne m2
        have j8 : ((c.toNat : Int) == 63) = false := u8_ne m3
        have j9 : ((c.toNat : Int) == (d.toNat : Int)) = false := u8_ne m5
        clear hx hy
        replace m2 := Lib.hid m2
        replace m3 := Lib.hid m3
        replace m5 := Lib.hid m5
        go_wp2_with fail
        go_quiet (fail)
        have hB2 := bdrewN (n := nq) hBr
        go_wp2_with fail
        go_ret
        exact ⟨by rw [hv.out]; rfl, hB2⟩
      · have hv := hback g1 g2
        clear hend hback
        have q1 : decide ((0 : Int) ≤ st) = true := by simp; omega
        have q2 : decide (bk < u.size) = true := by simp; omega
        have q3 : decide ((bk : Int) < (u.size : Int)) = true := by simp; omega
        have hy1 := hy m2
        have j1 : ((I : Int) == (u.size : Int)) = false := by simp; omega
        have j2 : decide ((I : Int) < (u.size : Int)) = true := by simp; omega
        have j3 : decide (I < u.size) = true := by simp; omega
        have j4 : decide ((P : Int) < (t.size : Int)) = false := by simp; omega
        have j5 : decide (P < t.size) = false := by simp; omega
        have j6 : ((P : Int) == (t.size : Int)) = true := by simp; omega
        clear hx hy
        replace m1 := Lib.hid m1
        go_wp2_with fail
        go_quiet (fail)
        have hB2 := bdrewN (n := nq) hBr
        go_wp2_with fail
        go_roundw
        case rel => exact ⟨hB2, st.toNat, bk + 1, st, bk + 1, by omega, by omega, by omega, rfl, by go_num, by go_num, by go_num, by omega, hv⟩
        case measure => simp only [intOf]; exact globM_back g2 (by omega)
      · have hv := hback g1 g2
        clear hend hback
        have q1 : decide ((0 : Int) ≤ st) = true := by simp; omega
        have q2 : decide (bk < u.size) = true := by simp; omega
        have q3 : decide ((bk : Int) < (u.size : Int)) = true := by simp; omega
        have hx1 := hx m1
        have j1 : ((I : Int) == (u.size : Int)) = true := by simp; omega
        have j2 : decide ((I : Int) < (u.size : Int)) = false := by simp; omega
        have j3 : decide (I < u.size) = false := by simp; omega
        have j4 : decide ((P : Int) < (t.size : Int)) = true := by simp; omega
        have j5 : decide (P < t.size) = true := by simp; omega
        have j6 : ((P : Int) == (t.size : Int)) = false := by simp; omega
        have j7 : ((c.toNat : Int) == 42) = false := u8_ne m2
        clear hx hy
        replace m2 := Lib.hid m2
        replace m3 := Lib.hid m3
        go_wp2_with fail
        go_quiet (fail)
        have hB2 := bdrewN (n := nq) hBr
        go_wp2_with fail
        go_roundw
        case rel => exact ⟨hB2, st.toNat, bk + 1, st, bk + 1, by omega, by omega, by omega, rfl, by go_num, by go_num, by go_num, by omega, hv⟩
        case measure => simp only [intOf]; exact globM_back g2 (by omega)
      · have hv := hback g1 g2
        clear hend hback
        have q1 : decide ((0 : Int) ≤ st) = true := by simp; omega
        have q2 : decide (bk < u.size) = true := by simp; omega
        have q3 : decide ((bk : Int) < (u.size : Int)) = true := by simp; omega
        have hx1 := hx m1
        have hy1 := hy m4
        have j1 : ((I : Int) == (u.size : Int)) = false := by simp; omega
        have j2 : decide ((I : Int) < (u.size : Int)) = true := by simp; omega
        have j3 : decide (I < u.size) = true := by simp; omega
        have j4 : decide ((P : Int) < (t.size : Int)) = true := by simp; omega
        have j5 : decide (P < t.size) = true := by simp; omega
        have j6 : ((P : Int) == (t.size : Int)) = false := by simp; omega
        have j7 : ((c.toNat : Int) == 42) = false := u8_ne m2
        have j8 : ((c.toNat : Int) == 63) = false := u8_ne m3
        have j9 : ((c.toNat : Int) == (d.toNat : Int)) = false := u8_ne m5
        clear hx hy
        replace m2 := Lib.hid m2
        replace m3 := Lib.hid m3
        replace m5 := Lib.hid m5
        go_wp2_with fail
        go_quiet (fail)
        have hB2 := bdrewN (n := nq) hBr
        go_wp2_with fail
        go_roundw
        case rel => exact ⟨hB2, st.toNat, bk + 1, st, bk + 1, by omega, by omega, by omega, rfl, by go_num, by go_num, by go_num, by omega, hv⟩
        case measure => simp only [intOf]; exact globM_back g2 (by omega)
      · have hv := hend (.inr g2)
        clear hend hback
        have q1 : decide ((0 : Int) ≤ st) = true := by simp; omega
        have q2 : decide (bk < u.size) = false := by simp; omega
        have q3 : decide ((bk : Int) < (u.size : Int)) = false := by simp; omega
        have hy1 := hy m2
        have j1 : ((I : Int) == (u.size : Int)) = false := by simp; omega
        have j2 : decide ((I : Int) < (u.size : Int)) = true := by simp; omega
        have j3 : decide (I < u.size) = true := by simp; omega
        have j4 : decide ((P : Int) < (t.size : Int)) = false := by simp; omega
        have j5 : decide (P < t.size) = false := by simp; omega
        have j6 : ((P : Int) == (t.size : Int)) = true := by simp; omega
        clear hx hy
        replace m1 := Lib.hid m1
        go_wp2_with fail
        go_quiet (fail)
        have hB2 := bdrewN (n := nq) hBr
        go_wp2_with fail
        go_ret
        exact ⟨by rw [hv.out]; rfl, hB2⟩
      · have hv := hend (.inr g2)
        clear hend hback
        have q1 : decide ((0 : Int) ≤ st) = true := by simp; omega
        have q2 : decide (bk < u.size) = false := by simp; omega
        have q3 : decide ((bk : Int) < (u.size : Int)) = false := by simp; omega
        have hx1 := hx m1
        have j1 : ((I : Int) == (u.size : Int)) = true := by simp; omega
        have j2 : decide ((I : Int) < (u.size : Int)) = false := by simp; omega
        have j3 : decide (I < u.size) = false := by simp; omega
        have j4 : decide ((P : Int) < (t.size : Int)) = true := by simp; omega
        have j5 : decide (P < t.size) = true := by simp; omega
        have j6 : ((P : Int) == (t.size : Int)) = false := by simp; omega
        have j7 : ((c.toNat : Int) == 42) = false := u8_ne m2
        clear hx hy
        replace m2 := Lib.hid m2
        replace m3 := Lib.hid m3
        go_wp2_with fail
        go_quiet (fail)
        have hB2 := bdrewN (n := nq) hBr
        go_wp2_with fail
        go_ret
        exact ⟨by rw [hv.out]; rfl, hB2⟩
      · have hv := hend (.inr g2)
        clear hend hback
        have q1 : decide ((0 : Int) ≤ st) = true := by simp; omega
        have q2 : decide (bk < u.size) = false := by simp; omega
        have q3 : decide ((bk : Int) < (u.size : Int)) = false := by simp; omega
        have hx1 := hx m1
        have hy1 := hy m4
        have j1 : ((I : Int) == (u.size : Int)) = false := by simp; omega
        have j2 : decide ((I : Int) < (u.size : Int)) = true := by simp; omega
        have j3 : decide (I < u.size) = true := by simp; omega
        have j4 : decide ((P : Int) < (t.size : Int)) = true := by simp; omega
        have j5 : decide (P < t.size) = true := by simp; omega
        have j6 : ((P : Int) == (t.size : Int)) = false := by simp; omega
        have j7 : ((c.toNat : Int) == 42) = false := u8_ne m2
        have j8 : ((c.toNat : Int) == 63) = false := u8_ne m3
        have j9 : ((c.toNat : Int) == (d.toNat : Int)) = false := u8_ne m5
        clear hx hy
        replace m2 := Lib.hid m2
        replace m3 := Lib.hid m3
        replace m5 := Lib.hid m5
        go_wp2_with fail
        go_quiet (fail)
        have hB2 := bdrewN (n := nq) hBr
        go_wp2_with fail
        go_ret
        exact ⟨by rw [hv.out]; rfl, hB2⟩
end Go.Proofs.YtompmkcpicfdfaaDoor

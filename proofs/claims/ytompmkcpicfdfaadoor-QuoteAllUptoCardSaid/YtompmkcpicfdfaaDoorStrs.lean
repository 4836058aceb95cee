/- missiveref01.Strings: whether two lists are equal. -/
import Derived.Test.YtompmkcpicfdfaaDoorTextB
namespace Go.Proofs.YtompmkcpicfdfaaDoor
open Go.RowKit
set_option linter.unusedVariables false
theorem take_snoc {ts us : List ByteArray} {k : Nat} (h1 : k < ts.length) (h2 : k < us.length) (h : ts.take k = us.take k) (he : ts[k] = us[k]) : ts.take (k + 1) = us.take (k + 1) := by
  rw [List.take_succ_eq_append_getElem h1, List.take_succ_eq_append_getElem h2, h, he]
set_option maxHeartbeats 4000000 in
theorem Strings_any (v u : Value) (ts us : List ByteArray) (w : World) (hv : Ss w v ts) (hu : Ss w u us) (hm : ts.length ≤ 140737488355328) (hm2 : us.length ≤ 140737488355328) :
    Calls Tryd.prog 31 #[v, u] w fun e w' => e = .returned (.bool (decide (ts = us))) ∧ Below w.heap.size w w' := by
  obtain ⟨a1, c1, rfl, hc1, hd1⟩ := hv.val
  obtain ⟨a2, c2, rfl, hc2, hd2⟩ := hu.val
  by_cases hn : ts.length = us.length
  · have e1 : ((ts.length : Int) != (us.length : Int)) = false := by rw [hn]; simp
    replace hn := Lib.hid hn
    go_enter Tryd.func31, Tryd.ntmps31
    go_wp2_with fail
    go_loopw [5] (fun i wr => Below w.heap.size w wr ∧ ∃ k : Nat, i = .int .i64 k ∧ k ≤ ts.length ∧ ts.take k = us.take k) (fun i _ => ts.length - (intOf i).toNat)
    case atStart => exact ⟨Below.refl _ _, 0, rfl, by omega, rfl⟩
    case round =>
      obtain ⟨hBr, k, rfl, hk, ht⟩ := hrel
      by_cases hlt : k < ts.length
      · have q1 : decide ((k : Int) < (ts.length : Int)) = true := by simp; omega
        have q2 : decide (k < ts.length) = true := by simp; omega
        have hlt2 : k < us.length := by have := hn.out; omega
        have q3 : decide (k < us.length) = true := by simp; omega
        obtain ⟨b1, o1, d1, he1, _, _, hb1, hcell1⟩ := (hv.below hBr).at (by omega)
        obtain ⟨b2, o2, d2, he2, _, _, hb2, hcell2⟩ := (hu.below hBr).at (by omega)
        cases he1
        cases he2
        have x1 := hcell1 k _ (ss_get hlt)
        have x2 := hcell2 k _ (ss_get hlt2)
        clear hcell1 hcell2 hv hu
        obtain ⟨x, hx⟩ : ∃ x, ts[k] = x := ⟨_, rfl⟩
        obtain ⟨y, hy⟩ : ∃ y, us[k] = y := ⟨_, rfl⟩
        rw [hx] at x1
        rw [hy] at x2
        by_cases hxy : x = y
        · have r1 : (x.toList == y.toList) = true := by rw [hxy]; simp
          have hts := take_snoc hlt hlt2 ht (by rw [hx, hy, hxy])
          clear hx hy ht
          replace hxy := Lib.hid hxy
          replace hts := Lib.hid hts
          go_wp2_with fail
          go_quiet (fail)
          have hB2 := bdrewN (n := nq) hBr
          go_wp2_with fail
          go_roundw
          case rel => exact ⟨hB2, k + 1, by go_num, hlt, hts.out⟩
          case measure => simp only [intOf]; go_num
        · have r1 : (x.toList == y.toList) = false := by
            rw [Lib.toList_data, Lib.toList_data]
            simp only [beq_eq_false_iff_ne]
            exact fun h => hxy (str_inj h)
          have hne : decide (ts = us) = false := decide_eq_false fun h => hxy (by rw [← hx, ← hy]; subst h; rfl)
          clear hx hy ht
          replace hxy := Lib.hid hxy
          replace hne := Lib.hid hne
          go_wp2_with fail
          go_quiet (fail)
          have hB2 := bdrewN (n := nq) hBr
          go_wp2_with fail
          go_ret
          exact ⟨by rw [hne.out]; rfl, hB2⟩
      · have q1 : decide ((k : Int) < (ts.length : Int)) = false := by simp; omega
        have q2 : decide (k < ts.length) = false := by simp; omega
        have heq : decide (ts = us) = true := decide_eq_true (by
          rw [List.take_of_length_le (by omega), List.take_of_length_le (by have := hn.out; omega)] at ht; exact ht)
        replace heq := Lib.hid heq
        clear ht
        go_wp2_with fail
        go_ret
        exact ⟨by rw [heq.out]; rfl, hBr⟩
  · have e1 : ((ts.length : Int) != (us.length : Int)) = true := by simp; omega
    have hne : decide (ts = us) = false := decide_eq_false fun h => hn (by rw [h])
    rw [hne]
    go_enter Tryd.func31, Tryd.ntmps31
    go_wp2_with fail
    go_ret
    exact ⟨rfl, Below.refl _ _⟩
end Go.Proofs.YtompmkcpicfdfaaDoor

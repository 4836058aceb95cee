/- missivelaw07.CodecBack: the walk. -/
import Derived.Test.YtompmkcpicfdfaaDoorSmall07
namespace Go.Proofs.YtompmkcpicfdfaaDoor
open Go.RowKit
set_option linter.unusedVariables false
theorem same_eq (s : ByteArray) : (s.toList == s.toList) = true := by simp
set_option maxRecDepth 100000 in
set_option maxHeartbeats 4000000 in
theorem back07_walk (s : ByteArray) (w : World) (hs : s.size ≤ maxLen) :
    Calls Tryd.prog 5 #[.string s] w fun e w' => e = .returned (.bool true) ∧ Below w.heap.size w w' := by
  by_cases h1 : s.size ≤ 2000
  · have g1 : decide ((2000 : Int) < (s.size : Int)) = false := decide_eq_false (by omega)
    have hl1 := enc64_len s.data.toList 0
    have hl2 := (qall_len s.data.toList 0).2
    have hl3 := (perc_len s.data.toList).2
    rw [str_size] at hl1 hl2 hl3
    have hse := same_eq s
    go_enter Tryd.func5, Tryd.ntmps5
    go_wp2_with fail
    refine (small07_any _).mono ?_
    rintro e W1 ⟨rfl, b1⟩
    go_wp2_with fail
    refine (Base64_any s _ (by omega)).mono ?_
    rintro e W2 ⟨⟨t, rfl, ht⟩, b2⟩
    have hts : t.size < 4294967281 := by rw [← str_size, ht]; omega
    go_wp2_with fail
    refine (Unbase64_any t _ hts).mono ?_
    rw [ht, unb_enc64]
    rintro e W3 ⟨⟨a, rfl, ha⟩, b3⟩
    obtain rfl : a = s := str_inj ha
    have hB := bnext (bnext b1 b2) b3
    clear b1 b2 b3 ht ha
    go_wp2_with fail
    refine (Quoted_any a _ (by omega)).mono ?_
    rintro e W4 ⟨⟨q, rfl, hq⟩, b4⟩
    have hqs : q.size ≤ 140737488355328 := by rw [← str_size, hq]; omega
    go_wp2_with fail
    refine (Unquoted_any q _ hqs).mono ?_
    rw [hq, unq_qall]
    rintro e W5 ⟨⟨b, rfl, hb⟩, b5⟩
    obtain rfl : b = a := str_inj hb
    have hB5 := bnext (bnext hB b4) b5
    clear hB b4 b5 hq hb
    go_wp2_with fail
    refine (Percent_any b _ (by omega)).mono ?_
    rintro e W6 ⟨⟨p, rfl, hp⟩, b6⟩
    have hps : p.size ≤ 140737488355328 := by rw [← str_size, hp]; omega
    go_wp2_with fail
    refine (Unpercent_any p _ hps).mono ?_
    rw [hp, unp_perc]
    rintro e W7 ⟨⟨c, rfl, hc⟩, b7⟩
    obtain rfl : c = b := str_inj hc
    have hB7 := bnext (bnext hB5 b6) b7
    clear hB5 b6 b7 hp hc
    go_wp2_with fail
    go_ret
    exact ⟨rfl, hB7⟩
  · have g1 : decide ((2000 : Int) < (s.size : Int)) = true := decide_eq_true (by omega)
    go_enter Tryd.func5, Tryd.ntmps5
    go_wp2_with fail
    refine (small07_any _).mono ?_
    rintro e W1 ⟨rfl, b1⟩
    go_wp2_with fail
    go_ret
    exact ⟨rfl, b1⟩
end Go.Proofs.YtompmkcpicfdfaaDoor

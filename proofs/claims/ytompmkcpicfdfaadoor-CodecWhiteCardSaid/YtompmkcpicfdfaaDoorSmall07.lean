/- missivelaw07.small: the examples. -/
import Derived.Test.YtompmkcpicfdfaaDoorUnb64
import Derived.Test.YtompmkcpicfdfaaDoorUnquo
import Derived.Test.YtompmkcpicfdfaaDoorQuoB
namespace Go.Proofs.YtompmkcpicfdfaaDoor
open Go.RowKit
set_option linter.unusedVariables false
theorem ex_unp : unp [97, 43, 98, 37, 50, 70, 99, 37] = ([97, 32, 98, 47, 99, 37], false) := by
  rw [unp_byte _ (by decide) (by decide), unp_plus, unp_byte _ (by decide) (by decide), unp_pair (x := 47) (by rfl)]
  show ((97 :: 32 :: 98 :: 47 :: (unp [99, 37]).1), (unp [99, 37]).2) = _
  rw [unp_byte _ (by decide) (by decide), unp_bad (by rfl), unp_nil]
theorem sb_of {t : ByteArray} {l : List UInt8} (h : t.data.toList = l) : t = ⟨⟨l⟩⟩ := str_inj h
set_option maxRecDepth 100000 in
set_option maxHeartbeats 4000000 in
theorem small07_any (w : World) : Calls Tryd.prog 15 #[] w fun e w' => e = .returned (.bool true) ∧ Below w.heap.size w w' := by
  have e1 : unb [84, 87, 70, 117, 32, 67, 103] = ([77, 97, 110, 10], false) := by kernel_rfl
  have e2 : unb [84, 87, 70, 117, 33] = ([77, 97, 110], false) := by kernel_rfl
  have e3 : unq [97, 61, 10, 98, 61, 52, 122, 32] = ([97, 98, 61, 52, 122], false) := by kernel_rfl
  have e4 := ex_unp
  have e5 : unb [84, 87, 70, 117, 67, 103, 61, 61, 10] = ([77, 97, 110, 10], true) := by kernel_rfl
  have e6 : enc64 0 [77, 97, 110, 10] = [84, 87, 70, 117, 67, 103, 61, 61, 10] := by kernel_rfl
  have e7 : qall 0 [97, 61, 195, 169, 32, 10] = [97, 61, 51, 68, 61, 67, 51, 61, 65, 57, 61, 50, 48, 10] := by kernel_rfl
  replace e1 := Lib.hid e1
  replace e2 := Lib.hid e2
  replace e3 := Lib.hid e3
  replace e4 := Lib.hid e4
  replace e5 := Lib.hid e5
  replace e6 := Lib.hid e6
  replace e7 := Lib.hid e7
  go_enter Tryd.func15, Tryd.ntmps15
  go_wp2_with fail
  refine (Unbase64_any _ _ (by decide)).mono ?_
  rintro e W1 ⟨⟨t1, he, h1⟩, b1⟩
  rw [e1.out] at he h1
  obtain rfl := sb_of h1
  subst he
  go_wp2_with fail
  refine (Unbase64_any _ _ (by decide)).mono ?_
  rintro e W2 ⟨⟨t2, he, h2⟩, b2⟩
  rw [e2.out] at he h2
  obtain rfl := sb_of h2
  subst he
  go_wp2_with fail
  refine (Unquoted_any _ _ (by decide)).mono ?_
  rintro e W3 ⟨⟨t3, he, h3⟩, b3⟩
  rw [e3.out] at he h3
  obtain rfl := sb_of h3
  subst he
  go_wp2_with fail
  refine (Unpercent_any _ _ (by decide)).mono ?_
  rintro e W4 ⟨⟨t4, he, h4⟩, b4⟩
  rw [e4.out] at he h4
  obtain rfl := sb_of h4
  subst he
  have hB := bnext (bnext (bnext b1 b2) b3) b4
  clear b1 b2 b3 b4 h1 h2 h3 h4
  go_wp2_with fail
  refine (Unbase64_any _ _ (by decide)).mono ?_
  rintro e W5 ⟨⟨t5, he, h5⟩, b5⟩
  rw [e5.out] at he h5
  obtain rfl := sb_of h5
  subst he
  go_wp2_with fail
  refine (Base64_any _ _ (by decide)).mono ?_
  rintro e W6 ⟨⟨t6, rfl, h6⟩, b6⟩
  rw [e6.out] at h6
  obtain rfl := sb_of h6
  have hB6 := bnext (bnext hB b5) b6
  clear hB b5 b6 h5 h6
  go_wp2_with fail
  refine (Quoted_any _ _ (by decide)).mono ?_
  rintro e W7 ⟨⟨t7, rfl, h7⟩, b7⟩
  rw [e7.out] at h7
  obtain rfl := sb_of h7
  go_wp2_with fail
  go_ret
  exact ⟨rfl, bnext hB6 b7⟩
end Go.Proofs.YtompmkcpicfdfaaDoor

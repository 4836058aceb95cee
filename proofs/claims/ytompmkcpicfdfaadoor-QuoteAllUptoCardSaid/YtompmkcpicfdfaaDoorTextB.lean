/- package text: Lower, Upper, Same, Trim, Squeeze. -/
import Derived.Test.YtompmkcpicfdfaaDoorTextA
import Derived.Test.YtompmkcpicfdfaaDoorFields
namespace Go.Proofs.YtompmkcpicfdfaaDoor
open Go.RowKit
set_option linter.unusedVariables false
def low (l : List UInt8) : List UInt8 := l.map (mv 65 90 32)
def upp (l : List UInt8) : List UInt8 := l.map (mv 97 122 (-32))
theorem mapped_low (s : ByteArray) (w : World) (hs : s.size ≤ maxLen) : Calls Tryd.prog 62 #[.string s, .int .u8 65, .int .u8 90, .int .i64 32] w (SPost (low s.data.toList) w) :=
  mapped_any s 65 90 32 w hs (by decide) (by decide)
theorem mapped_upp (s : ByteArray) (w : World) (hs : s.size ≤ maxLen) : Calls Tryd.prog 62 #[.string s, .int .u8 97, .int .u8 122, .int .i64 (-32)] w (SPost (upp s.data.toList) w) :=
  mapped_any s 97 122 (-32) w hs (by decide) (by decide)
theorem Lower_any (s : ByteArray) (w : World) (hs : s.size ≤ maxLen) : Calls Tryd.prog 37 #[.string s] w (SPost (low s.data.toList) w) := by
  go_enter Tryd.func37, Tryd.ntmps37
  go_wp2_with (go_at_call 62; refine (mapped_low s _ hs).mono ?_; rintro e w' ⟨⟨t, rfl, ht⟩, hb⟩)
  go_ret
  exact ⟨⟨t, rfl, ht⟩, hb⟩
theorem Upper_any (s : ByteArray) (w : World) (hs : s.size ≤ maxLen) : Calls Tryd.prog 38 #[.string s] w (SPost (upp s.data.toList) w) := by
  go_enter Tryd.func38, Tryd.ntmps38
  go_wp2_with (go_at_call 62; refine (mapped_upp s _ hs).mono ?_; rintro e w' ⟨⟨t, rfl, ht⟩, hb⟩)
  go_ret
  exact ⟨⟨t, rfl, ht⟩, hb⟩
theorem low_length (l : List UInt8) : (low l).length = l.length := by simp [low]
theorem upp_length (l : List UInt8) : (upp l).length = l.length := by simp [upp]
theorem SPost.mono_size {l : List UInt8} {t : ByteArray} (h : t.data.toList = l) : t.size = l.length := by rw [← h, str_size]
theorem Same_any (a b : ByteArray) (w : World) (ha : a.size ≤ maxLen) (hb : b.size ≤ maxLen) :
    Calls Tryd.prog 36 #[.string a, .string b] w fun e w' => e = .returned (.bool (decide (low a.data.toList = low b.data.toList))) ∧ Below w.heap.size w w' := by
  by_cases hn : a.size = b.size
  · replace hn := Lib.hid hn
    go_enter Tryd.func36, Tryd.ntmps36
    have he : ((a.size : Int) == (b.size : Int)) = true := by simp only [beq_iff_eq]; exact congrArg Int.ofNat hn.out
    go_wp2_with fail
    refine (Lower_any a _ ha).mono ?_
    rintro e W1 ⟨⟨t1, rfl, h1⟩, b1⟩
    go_wp2_with fail
    refine (Lower_any b _ hb).mono ?_
    rintro e W2 ⟨⟨t2, rfl, h2⟩, b2⟩
    go_wp2_with fail
    go_ret
    refine ⟨ret_bool ?_, b1.trans (b2.mono b1.size)⟩
    rw [Lib.toList_data, Lib.toList_data, h1, h2, Bool.eq_iff_iff]; simp
  · have he : ((a.size : Int) == (b.size : Int)) = false := by simp; omega
    go_enter Tryd.func36, Tryd.ntmps36
    go_wp2_with fail
    go_ret
    refine ⟨ret_bool ?_, Below.refl _ _⟩
    have : low a.data.toList ≠ low b.data.toList := fun h => hn (by have := congrArg List.length h; rw [low_length, low_length, str_size, str_size] at this; exact this)
    simp [this]
theorem rdrop_cons (c : UInt8) (l : List UInt8) : rdrop (c :: l) = if rdrop l = [] ∧ wh c = true then [] else c :: rdrop l := by
  unfold rdrop
  rw [List.reverse_cons, List.dropWhile_append]
  cases h : l.reverse.dropWhile wh with
  | nil =>
    cases hc : wh c
    · simp [hc]
    · simp [hc]
  | cons a q => simp
theorem trim_comm (l : List UInt8) : (rdrop l).dropWhile wh = rdrop (l.dropWhile wh) := by
  induction l with
  | nil => rfl
  | cons c l ih =>
    rw [rdrop_cons, List.dropWhile_cons]
    cases hc : wh c
    · simp only [Bool.false_eq_true, and_false, if_false]
      rw [List.dropWhile_cons, hc, rdrop_cons, hc]; simp
    · simp only [and_true, if_true]
      rw [← ih]
      split
      · rename_i h; rw [h]
      · rw [List.dropWhile_cons, hc]; rfl
theorem trimS_white (l : List UInt8) : Lib.trimS l whites = wtrim l := by
  unfold Lib.trimS Lib.trimRightS
  rw [trimLeft_white, wtrim, ← trim_comm]
  congr 3
  funext c
  exact whites_contains c
theorem Trim_text (s : ByteArray) (w : World) (hs : s.size ≤ maxLen) : Calls Tryd.prog 30 #[.string s] w (SPost (wtrim s.data.toList) w) := by
  have hs' := hs
  unfold maxLen at hs'
  have hc : Calls Tryd.prog 59 #[.string s, .string ⟨#[32, 9, 13, 10]⟩] w (SPost (wtrim s.data.toList) w) := by
    refine (Any.strings_Trim_laid Tryd.lays160 (by kernel_rfl) s ⟨#[32, 9, 13, 10]⟩ w (by omega) (by decide) ?_).mono fun e w' ⟨h1, h2⟩ => ⟨⟨_, h1, ?_⟩, h2⟩
    · intro j b hb
      have hm : b ∈ whites := List.mem_of_getElem? hb
      simp [whites] at hm
      rcases hm with rfl | rfl | rfl | rfl <;> decide
    · have := trimS_white s.data.toList; simpa [whites] using this
  go_enter Tryd.func30, Tryd.ntmps30
  go_wp2_with (go_at_call 59; refine hc.mono ?_; rintro e w' ⟨⟨t, rfl, ht⟩, hb⟩)
  go_ret
  exact ⟨⟨t, rfl, ht⟩, hb⟩
theorem join_cons (x y : List UInt8) (r : List (List UInt8)) (sep : List UInt8) : Lib.join (x :: y :: r) sep = x ++ sep ++ Lib.join (y :: r) sep := by
  simp [Lib.join, List.intercalate, List.intersperse]
theorem join_one (x sep : List UInt8) : Lib.join [x] sep = x := by simp [Lib.join, List.intercalate]
theorem join_length_cons (x : List UInt8) (r : List (List UInt8)) (sep : List UInt8) (hsep : sep.length ≤ 1) : (Lib.join (x :: r) sep).length ≤ x.length + 1 + (Lib.join r sep).length := by
  cases r with
  | nil => rw [join_one]; omega
  | cons y r => rw [join_cons]; simp only [List.length_append]; omega
theorem wgo_join (sep : List UInt8) (hsep : sep.length ≤ 1) : ∀ (l cur : List UInt8), (Lib.join (wgo cur l) sep).length ≤ cur.length + l.length
  | [], cur => by
    rw [wgo]; split
    · simp [Lib.join, List.intercalate]
    · rw [join_one]; simp
  | c :: l, cur => by
    rw [wgo]
    split
    · split
      · have := wgo_join sep hsep l []; simp at this ⊢; omega
      · have h1 := join_length_cons cur (wgo [] l) sep hsep
        have h2 := wgo_join sep hsep l []
        simp at h2 ⊢; omega
    · have := wgo_join sep hsep l (cur ++ [c]); simp at this ⊢; omega
theorem Ss.at {w : World} {v : Value} {ts : List ByteArray} (h : Ss w v ts) (hn : 0 < ts.length) : ∃ b off cap, v = .slice (some ⟨b, off, none⟩) ts.length cap ∧ ts.length ≤ cap ∧ cap ≤ maxLen ∧ b < w.heap.size ∧ ∀ (j : Nat) x, ts[j]? = some x → w.cell? ⟨b, off + j, none⟩ = some (.string x) := by
  obtain ⟨b, off, cap, h1, h2, h3, h4, h5⟩ := Sl.at h hn
  exact ⟨b, off, cap, h1, h2, h3, h4, fun j x hx => h5 j _ (by rw [List.getElem?_map, hx]; rfl)⟩
theorem Join_any (v : Value) (ts : List ByteArray) (sep : ByteArray) (w : World) (h : Ss w v ts) (hn : ts.length ≤ 140737488355328) (hlen : (Lib.join (ts.map (·.data.toList)) sep.data.toList).length ≤ 140737488355328) :
    Calls Tryd.prog 48 #[v, .string sep] w (SPost (Lib.join (ts.map (·.data.toList)) sep.data.toList) w) := by
  by_cases h0 : ts.length = 0
  · obtain ⟨a, cap, rfl, _, _⟩ := Sl.val h
    obtain rfl : ts = [] := List.eq_nil_of_length_eq_zero h0
    refine (Tryd.strings_Join_none a cap sep w).mono fun e w' ⟨h1, h2⟩ => ?_
    subst h2
    exact ⟨⟨_, h1, by simp [Lib.join, List.intercalate]⟩, Below.refl _ _⟩
  · obtain ⟨b, off, cap, rfl, hc1, hc2, hb, hc⟩ := Ss.at h (by omega)
    refine (Tryd.strings_Join b off cap ts sep w hc hb hn hc1 hlen).mono fun e w' ⟨h1, h2⟩ => ⟨⟨_, h1, by simp⟩, h2⟩
theorem wgo_length : ∀ (l cur : List UInt8), (wgo cur l).length ≤ cur.length + l.length
  | [], cur => by
    rw [wgo]; split
    · simp
    · rename_i h
      have : cur.length ≠ 0 := fun e => h (by simp [List.eq_nil_of_length_eq_zero e])
      simp; omega
  | c :: l, cur => by
    rw [wgo]
    split
    · split
      · have := wgo_length l []; simp at this ⊢; omega
      · rename_i h
        have : cur.length ≠ 0 := fun e => h (by simp [List.eq_nil_of_length_eq_zero e])
        have h2 := wgo_length l []
        simp at h2 ⊢; omega
    · have := wgo_length l (cur ++ [c]); simp at this ⊢; omega
theorem Squeeze_any (s : ByteArray) (w : World) (hs : s.size < 4294967281) : Calls Tryd.prog 32 #[.string s] w (SPost (Lib.join (wfields s.data.toList) [32]) w) := by
  have h1 := wgo_join [32] (by decide) s.data.toList []
  have h2 := wgo_length s.data.toList []
  rw [str_size] at h1 h2
  simp only [List.length_nil, Nat.zero_add] at h1 h2
  go_enter Tryd.func32, Tryd.ntmps32
  go_wp2_with fail
  refine (Fields_any s _ hs).mono ?_
  rintro e W1 ⟨⟨v, ts, rfl, hv, ht⟩, b1⟩
  go_wp2_with fail
  have hl : ts.length = (wfields s.data.toList).length := by rw [← ht, List.length_map]
  refine (Join_any v ts ⟨#[32]⟩ _ hv (by rw [hl]; unfold wfields; omega) (by rw [ht]; show (Lib.join (wgo [] s.data.toList) [32]).length ≤ _; omega)).mono ?_
  rw [ht]
  rintro e W2 ⟨⟨t, rfl, ht2⟩, b2⟩
  go_wp2_with fail
  go_ret
  exact ⟨⟨t, rfl, ht2⟩, b1.trans (b2.mono b1.size)⟩
end Go.Proofs.YtompmkcpicfdfaaDoor

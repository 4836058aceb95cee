/- strings.IndexRune(" \t\r\n", c) at a rune beyond ASCII. -/
import Derived.Test.YtompmkcpicfdfaaDoorShelf
import Derived.Test.YtompmkcpicfdfaaDoorRefA
import Derived.Lib.IndexAny
import Derived.Lib.IndexBytes
import Derived.Laws.RangeAny
import Derived.Deep.LoopGhost
namespace Go.Proofs.YtompmkcpicfdfaaDoor
open Go.RowKit
set_option linter.unusedVariables false
def whites : List UInt8 := [32, 9, 13, 10]
theorem whites_contains (c : UInt8) : whites.contains c = wh c := by
  rw [wh_eq, Bool.eq_iff_iff]
  simp [whites, ← UInt8.toNat_inj]
  omega
theorem encode_high (c : Nat) (h : 128 ≤ c) (t : ByteArray) (ht : Utf8.encode c = t) : 2 ≤ t.size ∧ t.size ≤ 4 ∧ ∀ i (hi : i < t.size), i + 1 = t.size → 128 ≤ (t[i]'hi).toNat := by
  have key : ∀ d : Nat, 128 ≤ d → ∀ t : ByteArray, t = (if d < 0x80 then ⟨#[UInt8.ofNat d]⟩ else if d < 0x800 then ⟨#[UInt8.ofNat (0xC0 + d / 64), UInt8.ofNat (0x80 + d % 64)]⟩ else if d < 0x10000 then ⟨#[UInt8.ofNat (0xE0 + d / 4096), UInt8.ofNat (0x80 + d / 64 % 64), UInt8.ofNat (0x80 + d % 64)]⟩ else ⟨#[UInt8.ofNat (0xF0 + d / 262144), UInt8.ofNat (0x80 + d / 4096 % 64), UInt8.ofNat (0x80 + d / 64 % 64), UInt8.ofNat (0x80 + d % 64)]⟩) →
      2 ≤ t.size ∧ t.size ≤ 4 ∧ ∀ i (hi : i < t.size), i + 1 = t.size → 128 ≤ (t[i]'hi).toNat := by
    intro d hd t ht
    have hl : 128 ≤ (UInt8.ofNat (0x80 + d % 64)).toNat := by simp; omega
    rw [if_neg (by omega)] at ht
    split at ht
    · subst ht
      refine ⟨(show 2 ≤ 2 by omega), (show 2 ≤ 4 by omega), fun i hi h2 => ?_⟩
      obtain rfl : i = 1 := by simp [ByteArray.size] at h2; exact h2
      exact hl
    · split at ht
      · subst ht
        refine ⟨(show 2 ≤ 3 by omega), (show 3 ≤ 4 by omega), fun i hi h2 => ?_⟩
        obtain rfl : i = 2 := by simp [ByteArray.size] at h2; exact h2
        exact hl
      · subst ht
        refine ⟨(show 2 ≤ 4 by omega), (show 4 ≤ 4 by omega), fun i hi h2 => ?_⟩
        obtain rfl : i = 3 := by simp [ByteArray.size] at h2; exact h2
        exact hl
  refine key (if Utf8.valid c then (c : Int).toNat else Utf8.runeError) ?_ t ht.symm
  split
  · simpa using h
  · decide
/-- The bytes that a rune beyond ASCII takes. -/
theorem decode_cont (s : ByteArray) (pos : Nat) (h : pos < s.size) (ha : 128 ≤ (s[pos]'h).toNat) : ∀ j, pos ≤ j → j < pos + (Utf8.decode s pos).2 → ∃ hj : j < s.size, 128 ≤ (s[j]'hj).toNat := by
  have hn : ¬ (s[pos]'h).toNat < 128 := by omega
  have cont : ∀ k, (decide (pos + k < s.size) && ((s.get! (pos + k)).toNat / 64 == 2)) = true → ∃ hj : pos + k < s.size, 128 ≤ (s[pos + k]'hj).toNat := by
    intro k hk
    simp only [Bool.and_eq_true, decide_eq_true_eq, beq_iff_eq] at hk
    refine ⟨hk.1, ?_⟩
    have e := get_at s (pos + k) hk.1
    simp only [Nat.add_zero] at e
    rw [e] at hk
    omega
  have far : ∀ m, (∀ k, k < m → k = 0 ∨ (decide (pos + k < s.size) && ((s.get! (pos + k)).toNat / 64 == 2)) = true) → ∀ j, pos ≤ j → j < pos + m → ∃ hj : j < s.size, 128 ≤ (s[j]'hj).toNat := by
    intro m hm j h1 h2
    obtain ⟨k, rfl⟩ : ∃ k, j = pos + k := ⟨j - pos, by omega⟩
    rcases hm k (by omega) with rfl | hk
    · exact ⟨h, ha⟩
    · exact cont k hk
  have one : ∀ k, k < 1 → k = 0 ∨ (decide (pos + k < s.size) && ((s.get! (pos + k)).toNat / 64 == 2)) = true := fun k hk => .inl (by omega)
  simp only [Utf8.decode, get_at s pos h, hn, if_false]
  split
  · rename_i hc
    simp only [Bool.and_eq_true] at hc
    split
    · exact far 2 (fun k hk => by
        rcases k with _ | _ | k
        · exact .inl rfl
        · exact .inr (by simpa using hc.2)
        · omega)
    · exact far 1 one
  · split
    · rename_i hc
      simp only [Bool.and_eq_true] at hc
      split
      · exact far 3 (fun k hk => by
          rcases k with _ | _ | _ | k
          · exact .inl rfl
          · exact .inr (by simpa using hc.1.2)
          · exact .inr (by simpa using hc.2)
          · omega)
      · exact far 1 one
    · split
      · rename_i hc
        simp only [Bool.and_eq_true] at hc
        split
        · exact far 4 (fun k hk => by
            rcases k with _ | _ | _ | _ | k
            · exact .inl rfl
            · exact .inr (by simpa using hc.1.1.2)
            · exact .inr (by simpa using hc.1.2)
            · exact .inr (by simpa using hc.2)
            · omega)
        · exact far 1 one
      · exact far 1 one
theorem noAny_far {s : ByteArray} {i m : Nat} (h : Lib.NoAny s.data.toList whites i) (hm : ∀ j, i ≤ j → j < i + m → ∃ hj : j < s.size, 128 ≤ (s[j]'hj).toNat) : Lib.NoAny s.data.toList whites (i + m) := by
  intro j b hj hb
  rcases Nat.lt_or_ge j i with h1 | h1
  · exact h j b h1 hb
  · obtain ⟨hj2, h2⟩ := hm j h1 hj
    rw [str_get s j hj2] at hb
    obtain rfl := Option.some.inj hb
    rw [whites_contains, wh_eq]
    simp; omega
theorem str_two {t : ByteArray} (h : t.size = 2) : ∃ a b, t = ⟨#[a, b]⟩ := by
  obtain ⟨⟨l⟩⟩ := t
  match l, h with
  | [a, b], _ => exact ⟨a, b, rfl⟩
theorem str_three {t : ByteArray} (h : t.size = 3) : ∃ a b c, t = ⟨#[a, b, c]⟩ := by
  obtain ⟨⟨l⟩⟩ := t
  match l, h with
  | [a, b, c], _ => exact ⟨a, b, c, rfl⟩
theorem str_four {t : ByteArray} (h : t.size = 4) : ∃ a b c d, t = ⟨#[a, b, c, d]⟩ := by
  obtain ⟨⟨l⟩⟩ := t
  match l, h with
  | [a, b, c, d], _ => exact ⟨a, b, c, d, rfl⟩
theorem indexByte_no (l : List UInt8) (x : UInt8) (h : ∀ b ∈ l, b ≠ x) : Lib.indexByte l x = -1 := by
  induction l with
  | nil => rfl
  | cons b l ih =>
    have h1 : (b == x) = false := by simpa using h b (by simp)
    have h2 := ih (fun c hc => h c (by simp [hc]))
    rw [Lib.indexByte, h1, h2]; rfl
theorem indexByte_call (s : ByteArray) (x : UInt8) (w : World) {v : Int} (h : Lib.indexByte s.data.toList x = v) : Calls Tryd.prog 82 #[.string s, .int .u8 x.toNat] w fun e w' => e = .returned (.int .i64 v) ∧ w' = w := by
  have h1 := Tryd.strings_IndexByte s x.toNat w
  have h2 : ((x.toNat : Int)).toNat.toUInt8 = x := by simp
  rw [h2, h] at h1
  exact h1
set_option maxRecDepth 100000 in
set_option maxHeartbeats 2000000 in
theorem IndexRune_no (c : Nat) (h1 : 128 ≤ c) (h2 : c ≤ 2147483647) (w : World) :
    Calls Tryd.prog 111 #[.string ⟨#[32, 9, 13, 10]⟩, .int .i32 c] w fun e w' => e = .returned (.int .i64 (-1)) ∧ Below w.heap.size w w' := by
  have d1 : decide ((0 : Int) ≤ (c : Int)) = true := by simp
  have d2 : decide ((c : Int) < 128) = false := by simp; omega
  by_cases h3 : c = 65533
  · subst h3
    go_enter Tryd.func111, Tryd.ntmps111
    go_wp2_with fail
    go_loopg [5, 6] 4 (fun g _ _ wx => ∃ i : Nat, i + g = 4 ∧ wx = w.iter ⟨#[32, 9, 13, 10]⟩ i)
    case atStart => exact ⟨0, by omega, rfl⟩
    case round =>
      obtain ⟨i, hig, rfl⟩ := hrel
      cases gk with
      | zero =>
        obtain rfl : i = 4 := by omega
        have hnx := run_next_end (P := Tryd.prog) w ⟨#[32, 9, 13, 10]⟩ 4
        have hn4 : ¬ (4 : Nat) < (⟨#[32, 9, 13, 10]⟩ : ByteArray).size := by decide
        go_wp2_with fail
        go_ret
        exact ⟨rfl, (Below.refl _ _).alloc (Nat.le_refl _) _⟩
      | succ g =>
        have hi : i = 0 ∨ i = 1 ∨ i = 2 ∨ i = 3 := by omega
        rcases hi with rfl | rfl | rfl | rfl
        · have hnx := fun ty => run_next_ascii (P := Tryd.prog) w ⟨#[32, 9, 13, 10]⟩ 0 ty (by decide) (by decide)
          go_wp2_with fail
          go_roundg g
          case measure => omega
          case rel => exact ⟨1, by omega, rfl⟩
        · have hnx := fun ty => run_next_ascii (P := Tryd.prog) w ⟨#[32, 9, 13, 10]⟩ 1 ty (by decide) (by decide)
          go_wp2_with fail
          go_roundg g
          case measure => omega
          case rel => exact ⟨2, by omega, rfl⟩
        · have hnx := fun ty => run_next_ascii (P := Tryd.prog) w ⟨#[32, 9, 13, 10]⟩ 2 ty (by decide) (by decide)
          go_wp2_with fail
          go_roundg g
          case measure => omega
          case rel => exact ⟨3, by omega, rfl⟩
        · have hnx := fun ty => run_next_ascii (P := Tryd.prog) w ⟨#[32, 9, 13, 10]⟩ 3 ty (by decide) (by decide)
          go_wp2_with fail
          go_roundg g
          case measure => omega
          case rel => exact ⟨4, by omega, rfl⟩
  · have e3 : ((c : Int) == 65533) = false := by simp; omega
    obtain ⟨q, hq⟩ : ∃ q, Lib.validRune c = q := ⟨_, rfl⟩
    cases q
    · replace hq := Lib.hid hq
      go_enter Tryd.func111, Tryd.ntmps111
      go_wp2_with (go_at_call 130; refine (Tryd.utf8_ValidRune _ _).mono ?_; rw [hq.out]; rintro e w' ⟨rfl, rfl⟩)
      go_ret
      exact ⟨rfl, Below.refl _ _⟩
    · replace hq := Lib.hid hq
      obtain ⟨t, ht⟩ : ∃ t, Utf8.encode c = t := ⟨_, rfl⟩
      obtain ⟨ht1, ht2, ht3⟩ := encode_high c h1 t ht
      have hcv : ∀ W, (convert 21 9 (.int .i32 c)).run Tryd.prog W = .ok (.string t) W := fun W => by
        rw [← ht]; simp [convert, run_underlying Tryd.underlying21, run_underlying Tryd.underlying9, Conv.intToString]
      clear ht
      have hz : t.size = 2 ∨ t.size = 3 ∨ t.size = 4 := by omega
      clear ht1 ht2
      rcases hz with hz | hz | hz
      · obtain ⟨a, x, rfl⟩ := str_two hz
        have hx2 : 128 ≤ x.toNat := ht3 1 (show 1 < 2 by omega) rfl
        have hx3 : ((9 : Int) != (x.toNat : Int)) = true := by simp; omega
        have hi1 : ∀ W, (Instr.index 9 (.string ⟨#[32, 9, 13, 10]⟩) (.int .i64 1)).run Tryd.prog W = .ok (.int .u8 9) W := fun _ => by kernel_rfl
        have hi2 : ∀ W, (Instr.index 9 (.string ⟨#[a, x]⟩) (.int .i64 1)).run Tryd.prog W = .ok (.int .u8 x.toNat) W := fun _ => by rfl
        have hsl : ∀ W, (Instr.sliceAt 9 (.string ⟨#[32, 9, 13, 10]⟩) (some (.int .i64 2)) none none).run Tryd.prog W = .ok (.string ⟨#[13, 10]⟩) W := fun _ => by kernel_rfl
        have hib : Lib.indexByte (⟨#[13, 10]⟩ : ByteArray).data.toList x = -1 := indexByte_no _ _ (by intro b hb e; subst e; simp at hb; try (rcases hb with rfl | rfl) <;> simp at hx2 <;> omega)
        have hcall : ∀ W, Calls Tryd.prog 82 #[.string ⟨#[13, 10]⟩, .int .u8 x.toNat] W fun e w' => e = .returned (.int .i64 (-1)) ∧ w' = W := fun W => indexByte_call ⟨#[13, 10]⟩ x W hib
        clear hib
        clear ht3 hz
        go_enter Tryd.func111, Tryd.ntmps111
        go_wp2_with (go_at_call 130; refine (Tryd.utf8_ValidRune _ _).mono ?_; rw [hq.out]; rintro e w' ⟨rfl, rfl⟩)
        go_step3
        go_wp2_with fail
        go_loop [9, 10] (fun i f => i = .int .i64 1 ∧ f = .int .i64 0) (fun _ _ => 0)
        case atStart => exact ⟨rfl, rfl⟩
        case round =>
          obtain ⟨rfl, rfl⟩ := hrel
          go_wp2_with fail
          go_step3
          go_wp2_with fail
          go_region
          go_wp2_with fail
          refine wp_named fun W2 hW2 => ?_
          have hB2 : Below w'.heap.size w' W2 := by rw [← hW2]; exact (Below.refl _ _).drew
          clear hW2
          go_quiet ((go_at_call 82; exact Calls.quiet_of_same (hcall _)))
          go_wp2_with fail
          simp (config := { zetaDelta := true }) only [Exit.inBlock, Exit.then, Exit.noGoto]
          go_ret
          exact ⟨rfl, bdrewN hB2⟩
      · obtain ⟨a, b, x, rfl⟩ := str_three hz
        have hx2 : 128 ≤ x.toNat := ht3 2 (show 2 < 3 by omega) rfl
        have hx3 : ((13 : Int) != (x.toNat : Int)) = true := by simp; omega
        have hi1 : ∀ W, (Instr.index 9 (.string ⟨#[32, 9, 13, 10]⟩) (.int .i64 2)).run Tryd.prog W = .ok (.int .u8 13) W := fun _ => by kernel_rfl
        have hi2 : ∀ W, (Instr.index 9 (.string ⟨#[a, b, x]⟩) (.int .i64 2)).run Tryd.prog W = .ok (.int .u8 x.toNat) W := fun _ => by rfl
        have hsl : ∀ W, (Instr.sliceAt 9 (.string ⟨#[32, 9, 13, 10]⟩) (some (.int .i64 3)) none none).run Tryd.prog W = .ok (.string ⟨#[10]⟩) W := fun _ => by kernel_rfl
        have hib : Lib.indexByte (⟨#[10]⟩ : ByteArray).data.toList x = -1 := indexByte_no _ _ (by intro b hb e; subst e; simp at hb; try (rcases hb with rfl | rfl) <;> simp at hx2 <;> omega)
        have hcall : ∀ W, Calls Tryd.prog 82 #[.string ⟨#[10]⟩, .int .u8 x.toNat] W fun e w' => e = .returned (.int .i64 (-1)) ∧ w' = W := fun W => indexByte_call ⟨#[10]⟩ x W hib
        clear hib
        clear ht3 hz
        go_enter Tryd.func111, Tryd.ntmps111
        go_wp2_with (go_at_call 130; refine (Tryd.utf8_ValidRune _ _).mono ?_; rw [hq.out]; rintro e w' ⟨rfl, rfl⟩)
        go_step3
        go_wp2_with fail
        go_loop [9, 10] (fun i f => i = .int .i64 2 ∧ f = .int .i64 0) (fun _ _ => 0)
        case atStart => exact ⟨rfl, rfl⟩
        case round =>
          obtain ⟨rfl, rfl⟩ := hrel
          go_wp2_with fail
          go_step3
          go_wp2_with fail
          go_region
          go_wp2_with fail
          refine wp_named fun W2 hW2 => ?_
          have hB2 : Below w'.heap.size w' W2 := by rw [← hW2]; exact (Below.refl _ _).drew
          clear hW2
          go_quiet ((go_at_call 82; exact Calls.quiet_of_same (hcall _)))
          go_wp2_with fail
          simp (config := { zetaDelta := true }) only [Exit.inBlock, Exit.then, Exit.noGoto]
          go_ret
          exact ⟨rfl, bdrewN hB2⟩
      · obtain ⟨a, b, d, x, rfl⟩ := str_four hz
        have hx2 : 128 ≤ x.toNat := ht3 3 (show 3 < 4 by omega) rfl
        have hx3 : ((10 : Int) != (x.toNat : Int)) = true := by simp; omega
        have hi1 : ∀ W, (Instr.index 9 (.string ⟨#[32, 9, 13, 10]⟩) (.int .i64 3)).run Tryd.prog W = .ok (.int .u8 10) W := fun _ => by kernel_rfl
        have hi2 : ∀ W, (Instr.index 9 (.string ⟨#[a, b, d, x]⟩) (.int .i64 3)).run Tryd.prog W = .ok (.int .u8 x.toNat) W := fun _ => by rfl
        have hsl : ∀ W, (Instr.sliceAt 9 (.string ⟨#[32, 9, 13, 10]⟩) (some (.int .i64 4)) none none).run Tryd.prog W = .ok (.string ⟨#[]⟩) W := fun _ => by kernel_rfl
        have hib : Lib.indexByte (⟨#[]⟩ : ByteArray).data.toList x = -1 := indexByte_no _ _ (by intro b hb e; subst e; simp at hb; try (rcases hb with rfl | rfl) <;> simp at hx2 <;> omega)
        have hcall : ∀ W, Calls Tryd.prog 82 #[.string ⟨#[]⟩, .int .u8 x.toNat] W fun e w' => e = .returned (.int .i64 (-1)) ∧ w' = W := fun W => indexByte_call ⟨#[]⟩ x W hib
        clear hib
        clear ht3 hz
        go_enter Tryd.func111, Tryd.ntmps111
        go_wp2_with (go_at_call 130; refine (Tryd.utf8_ValidRune _ _).mono ?_; rw [hq.out]; rintro e w' ⟨rfl, rfl⟩)
        go_step3
        go_wp2_with fail
        go_loop [9, 10] (fun i f => i = .int .i64 3 ∧ f = .int .i64 0) (fun _ _ => 0)
        case atStart => exact ⟨rfl, rfl⟩
        case round =>
          obtain ⟨rfl, rfl⟩ := hrel
          go_wp2_with fail
          go_step3
          go_wp2_with fail
          go_region
          go_wp2_with fail
          refine wp_named fun W2 hW2 => ?_
          have hB2 : Below w'.heap.size w' W2 := by rw [← hW2]; exact (Below.refl _ _).drew
          clear hW2
          go_quiet ((go_at_call 82; exact Calls.quiet_of_same (hcall _)))
          go_wp2_with fail
          simp (config := { zetaDelta := true }) only [Exit.inBlock, Exit.then, Exit.noGoto]
          go_ret
          exact ⟨rfl, bdrewN hB2⟩
end Go.Proofs.YtompmkcpicfdfaaDoor

/- package codec: Unquoted. -/
import Derived.Test.YtompmkcpicfdfaaDoorEnding
import Derived.Test.YtompmkcpicfdfaaDoorStepB
import Derived.Deep.RegionHeld3
namespace Go.Proofs.YtompmkcpicfdfaaDoor
open Go.RowKit
set_option linter.unusedVariables false
theorem wtrim_one (c : UInt8) : (wtrim [c] = []) = (wh c = true) := by
  unfold wtrim rdrop
  cases h : wh c
  · rw [List.dropWhile_cons, h]
    simp [h]
  · rw [List.dropWhile_cons, h]
    simp
/-- how the reading goes on at a byte -/
theorem unq_ways (c : UInt8) (r : List UInt8) : (c = 61 ∧ ∃ x, hpair r = some x ∧ unq (c :: r) = (x :: (unq (r.drop 2)).1, (unq (r.drop 2)).2)) ∨ (c = 61 ∧ hpair r = none ∧ ∃ t, endL true r = some t ∧ unq (c :: r) = unq t) ∨
    (c ≠ 61 ∧ blank c = true ∧ ∃ t, endL false (c :: r) = some t ∧ unq (c :: r) = unq t) ∨
    ((c = 61 ∧ hpair r = none ∧ endL true r = none ∧ unq (c :: r) = (c :: (unq r).1, false && (unq r).2)) ∨ (c ≠ 61 ∧ (blank c = true → endL false (c :: r) = none) ∧ unq (c :: r) = (c :: (unq r).1, okc c && (unq r).2))) := by
  by_cases h1 : c = 61
  · subst h1
    cases hp : hpair r with
    | some x => exact .inl ⟨rfl, x, rfl, unq_pair hp⟩
    | none =>
      cases he : endL true r with
      | some t => exact .inr (.inl ⟨rfl, rfl, t, rfl, unq_soft hp he⟩)
      | none => exact .inr (.inr (.inr (.inl ⟨rfl, rfl, rfl, by rw [unq_bad hp he]; rfl⟩)))
  · cases hb : blank c
    · exact .inr (.inr (.inr (.inr ⟨h1, fun h => absurd h (by decide), unq_byte r h1 hb⟩)))
    · cases he : endL false (c :: r) with
      | some t => exact .inr (.inr (.inl ⟨h1, rfl, t, rfl, unq_blanks hb he⟩))
      | none =>
        have hok : okc c = true := by
          have : c = 32 ∨ c = 9 := by simpa [blank] using hb
          rcases this with rfl | rfl <;> rfl
        exact .inr (.inr (.inr (.inr ⟨h1, fun _ => rfl, by rw [unq_blank hb he, hok]; simp⟩)))
theorem Reading.skip {f : List UInt8 → List UInt8 × Bool} {all pre rest rest' : List UInt8} {g : Bool} (h : Reading f all pre rest g) (e : f rest = f rest') : Reading f all pre rest' g := by
  obtain ⟨h1, h2⟩ := h
  exact ⟨by rw [h1, e], by rw [h2, e]⟩
theorem blank_tests {c : UInt8} (h : blank c = true) : ((c.toNat : Int) == 32) = true ∨ (((c.toNat : Int) == 32) = false ∧ ((c.toNat : Int) == 9) = true) := by
  have : c = 32 ∨ c = 9 := by simpa [blank] using h
  rcases this with rfl | rfl
  · exact .inl rfl
  · exact .inr ⟨rfl, rfl⟩
theorem noblank_tests {c : UInt8} (h : blank c = false) : ((c.toNat : Int) == 32) = false ∧ ((c.toNat : Int) == 9) = false := by
  unfold blank at h
  rw [Bool.or_eq_false_iff] at h
  exact ⟨by rw [u8_beq 32 (d := 32) rfl]; exact h.1, by rw [u8_beq 9 (d := 9) rfl]; exact h.2⟩
theorem okc_tests (c : UInt8) : okc c = (decide ((c.toNat : Int) ≤ 126) && (decide ((32 : Int) ≤ (c.toNat : Int)) || wh c)) := by
  have e1 : decide (c.toNat ≤ 126) = decide ((c.toNat : Int) ≤ 126) := by rw [Bool.eq_iff_iff]; simp; omega
  have e2 : decide (32 ≤ c.toNat) = decide ((32 : Int) ≤ (c.toNat : Int)) := by rw [Bool.eq_iff_iff]; simp; omega
  unfold okc; rw [e1, e2]
set_option maxRecDepth 100000 in
set_option maxHeartbeats 8000000 in
theorem Unquoted_any (s : ByteArray) (w : World) (hs : s.size ≤ 140737488355328) : Calls Tryd.prog 20 #[.string s] w (SBPost (unq s.data.toList).1 (unq s.data.toList).2 w) := by
  obtain ⟨i0, hi, hz0, hz1, hz2⟩ := info_parts infoByte_
  obtain ⟨l, hl⟩ : ∃ l, s.data.toList = l := ⟨_, rfl⟩
  rw [hl]
  replace hl := Lib.hid hl
  go_enter Tryd.func20, Tryd.ntmps20
  go_wp2_with fail
  go_loopw [0, 4, 5] (fun u v gv wr => ∃ (t : ByteArray) (pre : List UInt8) (g : Bool), u = .string t ∧ gv = .bool g ∧ wr.ownsRow w.heap.size 5 1 v pre.length (Lib.byteCells pre) ∧ pre.length + t.size ≤ s.size ∧ Reading unq l pre t.data.toList g ∧ Below w.heap.size w wr) (fun u _ _ _ => strLen u)
  case atStart => exact ⟨s, [], true, rfl, rfl, World.ownsRow_nil _ _ _ _, by simp, ⟨by rw [hl.out]; rfl, by rw [hl.out]; simp⟩, Below.refl _ _⟩
  case round =>
    obtain ⟨t, pre, g, rfl, rfl, hr, hsz, hE, hB⟩ := hrel
    by_cases h0 : t.size = 0
    · have hnil : t.data.toList = [] := List.eq_nil_of_length_eq_zero (by rw [str_size]; exact h0)
      have hEn := hE
      rw [hnil] at hEn
      obtain ⟨e1, e2⟩ := hEn
      rw [unq_nil, List.append_nil] at e1
      rw [unq_nil, Bool.and_true] at e2
      have hemp : t.toList.isEmpty = true := by rw [Lib.toList_data, hnil]; rfl
      obtain ⟨ao, cap, rfl⟩ := slice_of_own hr
      have hS := Sl.of_own hr
      replace hr := Lib.hid hr
      replace e1 := Lib.hid e1
      replace e2 := Lib.hid e2
      clear hE hnil h0
      go_wp2_with (refine wpList_string_of rfl 24 9 5 (.tmp 74) rfl _ _ cap _ rfl Tryd.underlying24 Tryd.underlying5 Tryd.underlying9 hS ?_; intro q hq)
      go_ret2
      exact ⟨⟨q, by rw [e2.out]; rfl, by rw [e1.out]; exact hq⟩, hB⟩
    · obtain ⟨ao, cap, rfl⟩ := slice_of_own hr
      have hne := isEmpty_of h0
      have hdr := str_drop t 0 (by omega)
      rw [List.drop_zero] at hdr
      obtain ⟨c, hc⟩ : ∃ c, t[0] = c := ⟨_, rfl⟩
      have hxc := idx_k .i64 t 0 (by omega) c (by rw [str_getD t 0 (by omega), hc]) 0 rfl
      obtain ⟨t1, ht1⟩ : ∃ t1, t.extract 1 t.size = t1 := ⟨_, rfl⟩
      have hd1 : t1.data.toList = t.data.toList.drop 1 := by rw [← ht1, ext_drop]
      have hs1 : t1.size = t.size - 1 := by rw [← ht1, ext_size]
      rw [hc, ← hd1] at hdr
      have hszB := hB.size
      have i1 : (1 : Int) ≤ (t.size : Int) := by omega
      have hmx : t1.size ≤ maxLen := by unfold maxLen; omega
      have hway := unq_ways c t1.data.toList
      rw [← hdr] at hway
      obtain ⟨tf, htf⟩ : ∃ tf, t.extract 0 1 = tf := ⟨_, rfl⟩
      have hdf : tf.data.toList = [c] := by rw [← htf, str_extract, hdr]; rfl
      have hsf : tf.size ≤ maxLen := by rw [← str_size, hdf]; unfold maxLen; simp
      have tst : ∀ d : UInt8, ∀ n : Int, n = d.toNat → ((c.toNat : Int) == n) = (c == d) := fun d n hn => u8_beq n hn
      clear hc
      replace hd1 := Lib.hid hd1
      replace hdf := Lib.hid hdf
      replace hdr := Lib.hid hdr
      rcases hway with ⟨n2, x, hx, hw⟩ | ⟨n2, hx, y, hy, hw⟩ | ⟨n2, hb, y, hy, hw⟩ | hD
      · have k2 : ((c.toNat : Int) == 61) = true := by rw [tst 61 61 rfl, n2]; rfl
        have hl2 := hpair_len hx
        rw [str_size] at hl2
        obtain ⟨t3, ht3⟩ : ∃ t3, t.extract 3 t.size = t3 := ⟨_, rfl⟩
        have hs3 : t3.size = t.size - 3 := by rw [← ht3, ext_size]
        have hd3 : t3.data.toList = t1.data.toList.drop 2 := by rw [← ht3, ext_drop, hd1.out, List.drop_drop]
        have i3 : (3 : Int) ≤ (t.size : Int) := by omega
        have hE2 := hE.step (g' := true) (x := x) (rest' := t3.data.toList) (by rw [hw, hd3]; rfl)
        rw [Bool.and_true] at hE2
        replace hE2 := Lib.hid hE2
        replace n2 := Lib.hid n2
        replace hs1 := Lib.hid hs1
        clear hE hw tst hd3 hdr
        go_wp2_with fail
        refine (pair_any t1 _ hmx).mono ?_
        rw [hx]
        rintro e W2 ⟨⟨bv, rfl, hbv⟩, b2⟩
        obtain rfl := hbv x rfl
        have hr2 := own_bel hr b2
        have hB2 := hB.trans (b2.mono hszB)
        have hsz2 := b2.size
        clear hbv b2 hr hB
        go_wp2_with fail
        go_region_held3 (fun w' => True) (trivial) (first
          | (refine step_append_one (o := ⟨some 29, _, _, _, _, _⟩) rfl (.tmp 26) (.tmp 28) 24 ?_ w.heap.size 5 i0 (.int .u8 0) 1 Tryd.underlying24 hi hz0 hz1 hz2 rfl (.slice ao pre.length cap) pre.length (Lib.byteCells pre) ?_ ?_ W2.heap.size ?_ (.int .u8 x.toNat) ?_ rfl (by unfold maxLen; omega) (by omega) ?_ ?_; rfl; rfl; (repeat (first | (with_reducible exact hr2) | (with_reducible refine World.ownsRow.drew ?_) | (with_reducible refine World.ownsRow.alloc ?_ _))); rfl; (repeat (first | (with_reducible exact cell_new1 (by simp)) | (with_reducible refine cell_drew1 ?_))); (simp; try omega); intro v' w1 hown' hgrow; have hB3 : Below w.heap.size w w1 := (by refine below_row ?_ (base := w.heap.size) (e := 5) (s := 1) (n := pre.length) (xs := Lib.byteCells pre) ?_ (Nat.le_refl _) (by simp; try omega) hgrow; (repeat (first | (with_reducible exact hB2) | (with_reducible refine Below.alloc ?_ (by first | omega | (simp; omega)) _) | (with_reducible refine Below.drew ?_))); (repeat (first | (with_reducible exact hr2) | (with_reducible refine World.ownsRow.drew ?_) | (with_reducible refine World.ownsRow.alloc ?_ _)))); clear hgrow))
        go_wp2_with fail
        go_roundw
        case rel => exact ⟨t3, pre ++ [x], g, rfl, rfl, by rw [byteCells_snoc, List.length_append]; exact hown', by rw [List.length_append]; simp only [List.length_cons, List.length_nil]; omega, hE2.out, hB3⟩
        case measure => show t3.size < t.size; omega
      · have k2 : ((c.toNat : Int) == 61) = true := by rw [tst 61 61 rfl, n2]; rfl
        replace n2 := Lib.hid n2
        replace hs1 := Lib.hid hs1
        have hyl := endL_soft_le hy
        rw [str_size] at hyl
        clear tst hdr
        go_wp2_with fail
        refine (pair_any t1 _ hmx).mono ?_
        rw [hx]
        rintro e W2 ⟨⟨bv, rfl, hbv⟩, b2⟩
        have hr2 := own_bel hr b2
        have hB2 := hB.trans (b2.mono hszB)
        have hsz2 := b2.size
        clear hbv b2 hr hB
        go_wp2_with fail
        refine (ending_any t1 true _).mono ?_
        rw [hy]
        rintro e W3 ⟨⟨q, rfl, hq⟩, b3⟩
        have hq2 := hq y rfl
        have hr3 := own_bel hr2 b3
        have hB3 := hB2.trans (b3.mono (by omega))
        clear hq b3 hr2 hB2
        have hE2 := hE.skip (rest' := q.data.toList) (by rw [hw, hq2])
        have hqs : q.size < t.size := by rw [← str_size q, hq2]; have := hs1.out; omega
        replace hq2 := Lib.hid hq2
        replace hE2 := Lib.hid hE2
        clear hE hw
        go_wp2_with fail
        go_roundw
        case rel => exact ⟨q, pre, g, rfl, rfl, hr3, by omega, hE2.out, hB3⟩
        case measure => exact hqs
      · have k2 : ((c.toNat : Int) == 61) = false := by rw [tst 61 61 rfl]; simpa using n2
        have hyl := endL_blank_lt (r := t1.data.toList) hb (by rw [← hdr.out]; exact hy)
        rw [str_size] at hyl
        have hye := hy
        replace hye := Lib.hid hye
        have hE2 : ∀ q : ByteArray, q.data.toList = y → Reading unq l pre q.data.toList g := fun q hq => hE.skip (by rw [hw, hq])
        have hbt := blank_tests hb
        replace n2 := Lib.hid n2
        replace hE2 := Lib.hid hE2
        clear tst hE hw hdr
        rcases hbt with hb1 | ⟨hb1, hb2⟩
        all_goals
          go_wp2_with fail
          refine (ending_any t false _).mono ?_
          rw [hye.out]
          rintro e W3 ⟨⟨q, rfl, hq⟩, b3⟩
          have hq2 := hq y rfl
          have hr3 := own_bel hr b3
          have hB3 := hB.trans (b3.mono hszB)
          clear hq b3 hr hB
          have hqs : q.size < t.size := by rw [← str_size q, hq2]; omega
          replace hq2 := Lib.hid hq2
          go_wp2_with fail
          go_roundw
          case rel => exact ⟨q, pre, g, rfl, rfl, hr3, by omega, hE2.out q hq2.out, hB3⟩
          case measure => exact hqs
      · obtain ⟨gq, hgq⟩ : ∃ gq, (if c = 61 then false else g) = gq := ⟨_, rfl⟩
        have hE2 : Reading unq l (pre ++ [c]) t1.data.toList (gq && okc c) := by
          rcases hD with ⟨d1, _, _, d2⟩ | ⟨d1, _, d2⟩
          · have h5 := hE.step (g' := false) (x := c) (rest' := t1.data.toList) (by rw [d2])
            rw [Bool.and_false] at h5
            rw [← hgq, if_pos d1]
            exact h5
          · have h5 := hE.step (g' := okc c) (x := c) (rest' := t1.data.toList) (by rw [d2])
            rw [← hgq, if_neg d1]
            exact h5
        have hD2 : (((c.toNat : Int) == 61) = true ∧ gq = false ∧ hpair t1.data.toList = none ∧ endL true t1.data.toList = none) ∨ (((c.toNat : Int) == 61) = false ∧ gq = g) := by
          rcases hD with ⟨d1, d2, d3, _⟩ | ⟨d1, d2, _⟩
          · left
            exact ⟨by rw [tst 61 61 rfl, d1]; rfl, by rw [← hgq, if_pos d1], d2, d3⟩
          · right
            exact ⟨by rw [tst 61 61 rfl]; simpa using d1, by rw [← hgq, if_neg d1]⟩
        have hD3 : blank c = true → endL false t.data.toList = none := by
          rcases hD with ⟨d1, d2, d3, _⟩ | ⟨d1, d2, _⟩
          · intro hb; exact absurd d1 (blank_ne hb)
          · exact d2
        obtain ⟨bq, hbq⟩ : ∃ bq, blank c = bq := ⟨_, rfl⟩
        rw [hbq] at hD3
        have hD4 : (bq = true ∧ (((c.toNat : Int) == 32) = true ∨ (((c.toNat : Int) == 32) = false ∧ ((c.toNat : Int) == 9) = true))) ∨ (bq = false ∧ ((c.toNat : Int) == 32) = false ∧ ((c.toNat : Int) == 9) = false) := by
          cases bq
          · exact .inr ⟨rfl, noblank_tests hbq⟩
          · exact .inl ⟨rfl, blank_tests hbq⟩
        clear hbq
        replace hD3 := Lib.hid hD3
        obtain ⟨G, hG⟩ : ∃ G, (gq && okc c) = G := ⟨_, rfl⟩
        rw [hG] at hE2
        rw [okc_tests] at hG
        clear hD hgq tst hE hdr
        replace hE2 := Lib.hid hE2
        replace hG := Lib.hid hG
        obtain ⟨W0, hW0⟩ : ∃ W0 : World, W0 = wr := ⟨_, rfl⟩
        subst hW0
        replace hr := Lib.hid hr
        replace hB := Lib.hid hB
        go_upto_if 18 with fail
        go_cut [0, 4, 5] (fun u0 u4 v wx => u0 = .string t ∧ u4 = .slice ao pre.length cap ∧ v = .bool gq ∧ Below W0.heap.size W0 wx)
        case first =>
          clear hD3 hD4
          rcases hD2 with ⟨k1, rfl, k5, k6⟩ | ⟨k1, rfl⟩
          · go_wp2_with fail
            refine (pair_any t1 _ hmx).mono ?_
            rw [k5]
            rintro e W2 ⟨⟨bv, rfl, hbv⟩, b2⟩
            clear hbv
            go_wp2_with fail
            refine (ending_any t1 true _).mono ?_
            rw [k6]
            rintro e W3 ⟨⟨q, rfl, hq⟩, b3⟩
            clear hq
            go_wp2_with fail
            go_meet
            case rel => exact ⟨rfl, rfl, rfl, b2.trans (b3.mono b2.size)⟩
          · go_wp2_with fail
            go_meet
            case rel => exact ⟨rfl, rfl, rfl, Below.refl _ _⟩
        case rest =>
          obtain ⟨rfl, rfl, rfl, hb1⟩ := hcut
          obtain ⟨W1, rfl⟩ : ∃ W1 : World, W1 = wc := ⟨_, rfl⟩
          clear hD2
          go_upto_region 13 with fail
          go_cut [45] (fun v wx => v = .bool bq ∧ wx = W1)
          case first =>
            clear hD3
            rcases hD4 with ⟨rfl, k2 | ⟨k2, k3⟩⟩ | ⟨rfl, k2, k3⟩
            all_goals
              go_wp2_with fail
              go_meet
              case rel => exact ⟨rfl, rfl⟩
          case rest =>
          obtain ⟨rfl, rfl⟩ := hcut
          obtain ⟨W1, rfl⟩ : ∃ W1 : World, W1 = wc := ⟨_, rfl⟩
          clear hD4
          go_upto_if 45 with fail
          go_cut [0] (fun u0 wx => u0 = .string t ∧ Below W0.heap.size W0 wx)
          case first =>
            cases bq with
            | true =>
              have k3 := hD3.out rfl
              replace k3 := Lib.hid k3
              clear hD3
              go_wp2_with fail
              refine (ending_any t false _).mono ?_
              rw [k3.out]
              rintro e W3 ⟨⟨q, rfl, hq⟩, b3⟩
              clear hq
              go_wp2_with fail
              go_meet
              case rel => exact ⟨rfl, hb1.trans (b3.mono hb1.size)⟩
            | false =>
              clear hD3
              go_wp2_with fail
              go_meet
              case rel => exact ⟨rfl, hb1⟩
          case rest =>
          obtain ⟨rfl, hb5⟩ := hcut
          obtain ⟨W5, rfl⟩ : ∃ W5 : World, W5 = wc := ⟨_, rfl⟩
          clear hD3 hb1
          go_upto_region 17 with fail
          go_cut [5] (fun v wx => v = .bool G ∧ Below W5.heap.size W5 wx)
          case first =>
            cases gq with
            | false =>
              obtain rfl : false = G := by have := hG.out; simpa using this
              go_wp2_with fail
              go_meet
              case rel => exact ⟨rfl, Below.refl _ _⟩
            | true =>
              have hG2 := hG.out
              rw [Bool.true_and] at hG2
              cases h1 : decide ((c.toNat : Int) ≤ 126) with
              | false =>
                rw [h1] at hG2
                obtain rfl : false = G := by simpa using hG2
                go_wp2_with fail
                go_meet
                case rel => exact ⟨rfl, Below.refl _ _⟩
              | true =>
                rw [h1, Bool.true_and] at hG2
                cases h2 : decide ((32 : Int) ≤ (c.toNat : Int)) with
                | true =>
                  rw [h2] at hG2
                  obtain rfl : true = G := by simpa using hG2
                  go_wp2_with fail
                  go_meet
                  case rel => exact ⟨rfl, Below.refl _ _⟩
                | false =>
                  rw [h2, Bool.false_or] at hG2
                  replace hG2 := Lib.hid hG2
                  go_wp2_with fail
                  refine (Trim_text tf _ hsf).mono ?_
                  rintro e W7 ⟨⟨q, rfl, hq⟩, b7⟩
                  have hqe : q.toList.isEmpty = G := by
                    rw [← hG2.out, Lib.toList_data, hq, hdf.out]
                    have := wtrim_one c
                    cases h5 : wh c
                    · rw [h5] at this
                      cases h6 : wtrim [c] with
                      | nil => rw [h6] at this; simp at this
                      | cons _ _ => rfl
                    · rw [h5] at this
                      have : wtrim [c] = [] := by rw [this]
                      rw [this]; rfl
                  clear hq
                  go_wp2_with fail
                  go_meet
                  case rel => exact ⟨rfl, b7⟩
          case rest =>
            obtain ⟨rfl, hb6⟩ := hcut
            obtain ⟨W6, rfl⟩ : ∃ W6 : World, W6 = wc := ⟨_, rfl⟩
            have hb56 : Below W0.heap.size W0 W6 := hb5.trans (hb6.mono hb5.size)
            have hr6 := own_bel hr.out hb56
            have hB6 := hB.out.trans (hb56.mono hszB)
            have hz6 := hb56.size
            clear hr hB hb5 hb6 hb56
            go_wp2_with fail
            go_region_held3 (fun w' => True) (trivial) (first
          | (refine step_append_one (o := ⟨some 71, _, _, _, _, _⟩) rfl (.tmp 68) (.tmp 70) 24 ?_ w.heap.size 5 i0 (.int .u8 0) 1 Tryd.underlying24 hi hz0 hz1 hz2 rfl (.slice ao pre.length cap) pre.length (Lib.byteCells pre) ?_ ?_ W6.heap.size ?_ (.int .u8 c.toNat) ?_ rfl (by unfold maxLen; omega) (by omega) ?_ ?_; rfl; rfl; (repeat (first | (with_reducible exact hr6) | (with_reducible refine World.ownsRow.drew ?_) | (with_reducible refine World.ownsRow.alloc ?_ _))); rfl; (repeat (first | (with_reducible exact cell_new1 (by simp)) | (with_reducible refine cell_drew1 ?_))); (simp; try omega); intro v' w1 hown' hgrow; have hB3 : Below w.heap.size w w1 := (by refine below_row ?_ (base := w.heap.size) (e := 5) (s := 1) (n := pre.length) (xs := Lib.byteCells pre) ?_ (Nat.le_refl _) (by simp; try omega) hgrow; (repeat (first | (with_reducible exact hB6) | (with_reducible refine Below.alloc ?_ (by first | omega | (simp; omega)) _) | (with_reducible refine Below.drew ?_))); (repeat (first | (with_reducible exact hr6) | (with_reducible refine World.ownsRow.drew ?_) | (with_reducible refine World.ownsRow.alloc ?_ _)))); clear hgrow))
            go_wp2_with fail
            go_roundw
            case rel => exact ⟨t1, pre ++ [c], _, rfl, rfl, by rw [byteCells_snoc, List.length_append]; exact hown', by rw [List.length_append]; simp only [List.length_cons, List.length_nil]; omega, hE2.out, hB3⟩
            case measure => show t1.size < t.size; omega
end Go.Proofs.YtompmkcpicfdfaaDoor

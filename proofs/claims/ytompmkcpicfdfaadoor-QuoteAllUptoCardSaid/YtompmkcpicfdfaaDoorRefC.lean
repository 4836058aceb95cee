/- missiveref01: Fields, Squeeze, Unlines. -/
import Derived.Test.YtompmkcpicfdfaaDoorRefB
namespace Go.Proofs.YtompmkcpicfdfaaDoor
open Go.RowKit
set_option linter.unusedVariables false
theorem cut_mem {l : List UInt8} {a b : Nat} {p : UInt8 → Prop} (h : ∀ c ∈ cut l a b, p c) : ∀ c ∈ cut l a b, p c := h
theorem drop_cut (l : List UInt8) (a b : Nat) (h : a ≤ b) : l.drop a = cut l a b ++ l.drop b := by
  unfold cut
  rw [List.drop_take]
  have h1 : l.drop b = (l.drop a).drop (b - a) := by rw [List.drop_drop]; congr 1; omega
  rw [h1, List.take_append_drop]
set_option maxRecDepth 100000 in
set_option maxHeartbeats 4000000 in
theorem RefFields_any (s : ByteArray) (w : World) (hs : s.size < 4294967281) : Calls Tryd.prog 141 #[.string s] w (LPost (wfields s.data.toList) w) := by
  obtain ⟨i0, hif, hz0, hz1, hz2⟩ := info_parts infoStr
  obtain ⟨L, hL⟩ : ∃ L, wfields s.data.toList = L := ⟨_, rfl⟩
  rw [hL]
  replace hL := Lib.hid hL
  go_enter Tryd.func141, Tryd.ntmps141
  go_wp2_with fail
  go_loopw [3, 4] (fun v ii wr => ∃ (i : Nat) (pre : List ByteArray), ii = .int .i64 i ∧ i ≤ s.size ∧ wr.ownsRow w.heap.size 9 1 v pre.length (pre.map .string) ∧ pre.length ≤ i ∧ Hid (L = pre.map (·.data.toList) ++ wfields (s.data.toList.drop i)) ∧ Below w.heap.size w wr) (fun _ ii _ => s.size - (intOf ii).toNat)
  case atStart => exact ⟨0, [], rfl, by omega, World.ownsRow_nil _ _ _ _, by simp, by show _ = _; rw [← hL.out]; rfl, Below.refl _ _⟩
  case round =>
    obtain ⟨i, pre, rfl, hi, hr, hpl, hE, hB⟩ := hrel
    have hzB := hB.size
    by_cases hlt : i < s.size
    · have q1 : decide ((i : Int) < (s.size : Int)) = true := decide_eq_true (by omega)
      have q2 : decide (i < s.size) = true := decide_eq_true hlt
      have hdr := str_drop s i hlt
      cases hq : wh s[i]
      · have hcut : ∀ c ∈ cut s.data.toList i (i + 1), wh c = false := by
          rw [cut_succ (Nat.le_refl i) hlt, cut_nil]
          intro c hc
          simp only [List.nil_append, List.mem_singleton] at hc
          rw [hc]; exact hq
        replace hcut := Lib.hid hcut
        replace hq := Lib.hid hq
        replace hdr := Lib.hid hdr
        go_wp2_with (go_at_call 19; refine (White_any _ _).mono ?_; rw [hq.out]; rintro e w' ⟨rfl, rfl⟩)
        obtain ⟨W1, rfl⟩ : ∃ W1 : World, W1 = wr := ⟨_, rfl⟩
        go_loop [5] (fun kk => ∃ k : Nat, kk = .int .i64 k ∧ i ≤ k ∧ k ≤ s.size ∧ Hid (∀ c ∈ cut s.data.toList i k, wh c = false)) (fun kk => s.size - (intOf kk).toNat)
        case atStart => exact ⟨i, rfl, by omega, by omega, by show ∀ c ∈ _, _; rw [cut_nil]; simp⟩
        case round =>
          obtain ⟨k, rfl, hik, hk, hC⟩ := hrel
          have hex : (k < s.size ∧ ∃ h : k < s.size, wh s[k] = false) ∨ (k = s.size ∨ (k < s.size ∧ ∃ h : k < s.size, wh s[k] = true)) := by
            by_cases h : k < s.size
            · cases hqk : wh s[k]
              · exact .inl ⟨h, h, hqk⟩
              · exact .inr (.inr ⟨h, h, hqk⟩)
            · exact .inr (.inl (by omega))
          rcases hex with ⟨hk2, _, hqk⟩ | hex
          · have hC2 : Hid (∀ c ∈ cut s.data.toList i (k + 1), wh c = false) := by
              show ∀ c ∈ _, _
              rw [cut_succ hik hk2]
              intro c hc
              rcases List.mem_append.1 hc with hc | hc
              · exact hC.out c hc
              · rw [List.mem_singleton.1 hc]; exact hqk
            replace hqk := Lib.hid hqk
            have p1 : decide ((k : Int) < (s.size : Int)) = true := decide_eq_true (by omega)
            have p2 : decide (k < s.size) = true := decide_eq_true hk2
            go_wp2_with (go_at_call 19; refine (White_any _ _).mono ?_; rw [hqk.out]; rintro e w' ⟨rfl, rfl⟩)
            go_round
            case rel => exact ⟨k + 1, by go_num, by omega, by omega, hC2⟩
            case measure => simp [intOf]; omega
          · have hne : i < k := by
              rcases Nat.lt_or_ge i k with h | h
              · exact h
              · exfalso
                obtain rfl : i = k := by omega
                rcases hex with h1 | ⟨_, _, h1⟩
                · omega
                · rw [hq.out] at h1; cases h1
            obtain ⟨x, hx⟩ : ∃ x, s.extract i k = x := ⟨_, rfl⟩
            have hxd : x.data.toList = cut s.data.toList i k := by rw [← hx, str_extract]; rfl
            have hxs : 1 ≤ x.size := by rw [← hx, ByteArray.size_extract]; omega
            have hE3 : Hid (L = (pre ++ [x]).map (·.data.toList) ++ wfields (s.data.toList.drop k)) := by
              show _ = _
              rw [hE.out, drop_cut _ i k hik, wfields_first hC.out (by
                intro h0
                rw [h0] at hxd
                have := str_size x
                rw [hxd] at this; simp at this; omega) (by
                rcases hex with h1 | ⟨h1, _, h2⟩
                · left; rw [h1]; exact List.drop_eq_nil_of_le (by rw [str_size]; exact Nat.le_refl _)
                · right; exact ⟨_, _, str_drop s k h1, h2⟩), ← hxd]
              simp
            have j1 : (0 : Int) ≤ (i : Int) := by omega
            have j2 : (i : Int) ≤ (k : Int) := by omega
            have j3 : (k : Int) ≤ (s.size : Int) := by omega
            have hex2 : (k = s.size ∧ decide ((k : Int) < (s.size : Int)) = false ∧ decide (k < s.size) = false) ∨ (decide ((k : Int) < (s.size : Int)) = true ∧ decide (k < s.size) = true ∧ ∃ h : k < s.size, wh s[k] = true) := by
              rcases hex with h1 | ⟨h1, h2⟩
              · exact .inl ⟨h1, decide_eq_false (by omega), decide_eq_false (by omega)⟩
              · exact .inr ⟨decide_eq_true (by omega), decide_eq_true h1, h2⟩
            clear hex hxd hE hC hq hdr
            rcases hex2 with ⟨h1, p1, p2⟩ | ⟨p1, p2, hk2, hqk⟩
            · replace h1 := Lib.hid h1
              go_wp2_with (at_builtin; refine wpList_append_own _ rfl _ _ 32 rfl w.heap.size 9 i0 (.string ByteArray.empty) 1 16 Tryd.underlying32 hif hz0 hz1 hz2 rfl (by decide) _ _ _ rfl (hr.alloc _) ⟨W1.heap.size, 0, none⟩ 1 1 [.string x] rfl rfl (cell_one_new _ _ _) (by simp [Value.oneCell']) (by unfold maxLen; omega) (by omega) (by simp; omega) ?_; intro v' w1 hown' hgrow _)
              have hB3 : Below w.heap.size w w1 := (hB.alloc (by omega) _).trans (below_grown (hr.alloc _) (by simp; omega) hgrow)
              refine ⟨⟨k, pre ++ [x], rfl, by omega, by simpa using hown', by rw [List.length_append]; simp only [List.length_cons, List.length_nil]; omega, hE3, hB3⟩, ?_⟩
              simp only [intOf]; omega
            · replace hqk := Lib.hid hqk
              go_wp2_with (first | (go_at_call 19; refine (White_any _ _).mono ?_; rw [hqk.out]; rintro e w' ⟨rfl, rfl⟩) | (at_builtin; refine wpList_append_own _ rfl _ _ 32 rfl w.heap.size 9 i0 (.string ByteArray.empty) 1 16 Tryd.underlying32 hif hz0 hz1 hz2 rfl (by decide) _ _ _ rfl (hr.alloc _) ⟨W1.heap.size, 0, none⟩ 1 1 [.string x] rfl rfl (cell_one_new _ _ _) (by simp [Value.oneCell']) (by unfold maxLen; omega) (by omega) (by simp; omega) ?_; intro v' w1 hown' hgrow _))
              have hB3 : Below w.heap.size w w1 := (hB.alloc (by omega) _).trans (below_grown (hr.alloc _) (by simp; omega) hgrow)
              refine ⟨⟨k, pre ++ [x], rfl, by omega, by simpa using hown', by rw [List.length_append]; simp only [List.length_cons, List.length_nil]; omega, hE3, hB3⟩, ?_⟩
              simp only [intOf]; omega
      · have hE2 : Hid (L = pre.map (·.data.toList) ++ wfields (s.data.toList.drop (i + 1))) := by
          show _ = _
          rw [hE.out, hdr, wfields_white hq]
        replace hq := Lib.hid hq
        replace hdr := Lib.hid hdr
        clear hE
        go_wp2_with (go_at_call 19; refine (White_any _ _).mono ?_; rw [hq.out]; rintro e w' ⟨rfl, rfl⟩)
        go_roundw
        case rel => exact ⟨i + 1, pre, by go_num, hlt, hr, by omega, hE2, hB⟩
        case measure => simp only [intOf]; go_num
    · obtain rfl : i = s.size := by omega
      have q1 : decide ((s.size : Int) < (s.size : Int)) = false := by simp
      have q2 : decide (s.size < s.size) = false := by simp
      have hE2 : Hid (pre.map (·.data.toList) = L) := by
        show _ = _
        rw [hE.out, List.drop_eq_nil_of_le (by rw [str_size]; exact Nat.le_refl _), wfields_nil, List.append_nil]
      replace hr := Lib.hid hr
      clear hE
      go_wp2_with fail
      go_ret
      exact ⟨⟨_, pre, rfl, Sl.of_own (by simpa using hr.out), hE2.out⟩, hB⟩
theorem wfields_len (l : List UInt8) : (Lib.join (wfields l) [32]).length ≤ l.length := by
  obtain ⟨n, hn⟩ : ∃ n, l.length ≤ n := ⟨_, Nat.le_refl _⟩
  induction n generalizing l with
  | zero =>
    obtain rfl : l = [] := List.eq_nil_of_length_eq_zero (by omega)
    simp [wfields_nil, Lib.join, List.intercalate]
  | succ n ih =>
    cases l with
    | nil => simp [wfields_nil, Lib.join, List.intercalate]
    | cons c r =>
      cases hc : wh c
      · have htw : ∀ d ∈ ((c :: r).takeWhile fun d => !wh d), wh d = false := fun d hd => by
          have := mem_tw hd; simpa using this
        have hsp : (c :: r) = ((c :: r).takeWhile fun d => !wh d) ++ ((c :: r).dropWhile fun d => !wh d) := (List.takeWhile_append_dropWhile).symm
        have hne : ((c :: r).takeWhile fun d => !wh d) ≠ [] := by rw [List.takeWhile_cons, hc]; simp
        obtain ⟨x, hx⟩ : ∃ x, ((c :: r).takeWhile fun d => !wh d) = x := ⟨_, rfl⟩
        obtain ⟨y, hy⟩ : ∃ y, ((c :: r).dropWhile fun d => !wh d) = y := ⟨_, rfl⟩
        rw [hx, hy] at hsp
        rw [hx] at htw hne
        have hlen : (c :: r).length = x.length + y.length := by rw [hsp, List.length_append]
        have hx1 : 1 ≤ x.length := by
          cases x with
          | nil => exact absurd rfl hne
          | cons _ _ => simp
        rw [hsp, List.length_append]
        cases y with
        | nil =>
          rw [wfields_first htw hne (.inl rfl), wfields_nil, join_one]; omega
        | cons d q =>
          have hd : wh d = true := by have := dw_head hy; simpa using this
          rw [wfields_first htw hne (.inr ⟨d, q, rfl, hd⟩), wfields_white hd]
          have h1 := ih q (by simp at hlen hn; omega)
          cases hf : wfields q with
          | nil => rw [join_one]; omega
          | cons z zs =>
            rw [hf] at h1
            rw [join_cons]
            simp only [List.length_append, List.length_cons, List.length_nil]
            omega
      · have h1 := ih r (by simp at hn; omega)
        rw [wfields_white hc]
        simp; omega
theorem RefSqueeze_any (s : ByteArray) (w : World) (hs : s.size < 4294967281) : Calls Tryd.prog 124 #[.string s] w (SPost (Lib.join (wfields s.data.toList) [32]) w) := by
  have hl := wfields_len s.data.toList
  rw [str_size] at hl
  go_enter Tryd.func124, Tryd.ntmps124
  go_wp2_with fail
  refine (RefFields_any s _ hs).mono ?_
  rintro e W1 ⟨⟨v, ts, rfl, hv, hts⟩, b1⟩
  have hj : Lib.join (bysL ts) [32] = Lib.join (wfields s.data.toList) [32] := by rw [show bysL ts = wfields s.data.toList from hts]
  replace hts := Lib.hid hts
  go_wp2_with fail
  refine (RefJoin_any v ts ⟨#[32]⟩ _ hv (by rw [show (ByteArray.mk #[32]).data.toList = [32] from rfl, hj]; omega)).mono ?_
  rw [show (ByteArray.mk #[32]).data.toList = [32] from rfl, hj]
  rintro e Z1 ⟨⟨j1, rfl, hjd1⟩, f1⟩
  replace hjd1 := Lib.hid hjd1
  go_wp2_with fail
  go_ret
  exact ⟨⟨_, rfl, hjd1.out⟩, bnext b1 f1⟩
end Go.Proofs.YtompmkcpicfdfaaDoor

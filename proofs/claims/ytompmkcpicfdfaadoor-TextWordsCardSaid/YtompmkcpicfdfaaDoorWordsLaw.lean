/- Words: the laws that TextWords asks for (plain). -/
import Derived.Test.YtompmkcpicfdfaaDoorTextB
namespace Go.Proofs.YtompmkcpicfdfaaDoor
set_option linter.unusedVariables false
theorem wgo_nil (cur : List UInt8) (h : cur ≠ []) : wgo cur [] = [cur] := by
  cases cur with
  | nil => exact absurd rfl h
  | cons a t => rfl
theorem wgo_white {cur : List UInt8} (h : cur ≠ []) {c : UInt8} (hc : wh c = true) (r : List UInt8) : wgo cur (c :: r) = cur :: wgo [] r := by
  rw [wgo, if_pos hc]
  cases cur with
  | nil => exact absurd rfl h
  | cons a t => rfl
theorem wgo_white0 {c : UInt8} (hc : wh c = true) (r : List UInt8) : wgo [] (c :: r) = wgo [] r := by
  rw [wgo, if_pos hc]; rfl
theorem wgo_byte {c : UInt8} (hc : wh c = false) (cur r : List UInt8) : wgo cur (c :: r) = wgo (cur ++ [c]) r := by
  rw [wgo, hc]; rfl
theorem wgo_prefix : ∀ (r cur : List UInt8), cur ≠ [] → ∃ x t, wgo cur r = (cur ++ x) :: t
  | [], cur, h => ⟨[], [], by rw [wgo_nil cur h, List.append_nil]⟩
  | c :: r, cur, h => by
    cases hc : wh c
    · obtain ⟨x, t, e⟩ := wgo_prefix r (cur ++ [c]) (by simp)
      exact ⟨c :: x, t, by rw [wgo_byte hc, e, List.append_assoc]; rfl⟩
    · exact ⟨[], wgo [] r, by rw [wgo_white h hc, List.append_nil]⟩
theorem wgo_ne : ∀ (r cur : List UInt8), ∀ x ∈ wgo cur r, x ≠ []
  | [], cur, x, hx => by
    by_cases h : cur = []
    · subst h; cases hx
    · rw [wgo_nil cur h] at hx
      rw [List.mem_singleton.1 hx]; exact h
  | c :: r, cur, x, hx => by
    cases hc : wh c
    · rw [wgo_byte hc] at hx; exact wgo_ne r _ x hx
    · by_cases h : cur = []
      · subst h; rw [wgo_white0 hc] at hx; exact wgo_ne r _ x hx
      · rw [wgo_white h hc] at hx
        rcases List.mem_cons.1 hx with rfl | hx
        · exact h
        · exact wgo_ne r _ x hx
theorem wgo_pure : ∀ (r cur : List UInt8), (∀ c ∈ cur, wh c = false) → ∀ x ∈ wgo cur r, ∀ c ∈ x, wh c = false
  | [], cur, hp, x, hx => by
    by_cases h : cur = []
    · subst h; cases hx
    · rw [wgo_nil cur h] at hx
      rw [List.mem_singleton.1 hx]; exact hp
  | c :: r, cur, hp, x, hx => by
    cases hc : wh c
    · rw [wgo_byte hc] at hx
      refine wgo_pure r _ (fun d hd => ?_) x hx
      rcases List.mem_append.1 hd with hd | hd
      · exact hp d hd
      · rw [List.mem_singleton.1 hd]; exact hc
    · by_cases h : cur = []
      · subst h; rw [wgo_white0 hc] at hx; exact wgo_pure r _ hp x hx
      · rw [wgo_white h hc] at hx
        rcases List.mem_cons.1 hx with rfl | hx
        · exact hp
        · exact wgo_pure r _ (fun d hd => by cases hd) x hx
/-! ### the cursor -/
theorem take_ne {x : List UInt8} {j : Nat} (h0 : 0 < j) (h : j < x.length) : x.take j ≠ [] := fun e => by
  have := congrArg List.length e
  rw [List.length_take, List.length_nil] at this
  omega
theorem cur_end {x : List UInt8} {t : List (List UInt8)} {j : Nat} (hj : j < x.length) : wgo (x.take j) [] ≠ x :: t := by
  intro h
  rcases Nat.eq_zero_or_pos j with rfl | h0
  · cases h
  · rw [wgo_nil _ (take_ne h0 hj)] at h
    have := congrArg List.length (List.cons.inj h).1
    rw [List.length_take] at this
    omega
theorem cur_white {x r : List UInt8} {t : List (List UInt8)} {j : Nat} {c : UInt8} (hj : j < x.length) (hc : wh c = true) (h : wgo (x.take j) (c :: r) = x :: t) : wgo (x.take j) r = x :: t := by
  rcases Nat.eq_zero_or_pos j with rfl | h0
  · rw [List.take_zero, wgo_white0 hc] at h; exact h
  · rw [wgo_white (take_ne h0 hj) hc] at h
    have := congrArg List.length (List.cons.inj h).1
    rw [List.length_take] at this
    omega
theorem cur_byte {x r : List UInt8} {t : List (List UInt8)} {j : Nat} {c : UInt8} (hj : j < x.length) (hc : wh c = false) (h : wgo (x.take j) (c :: r) = x :: t) : x.getD j 0 = c ∧ wgo (x.take (j + 1)) r = x :: t := by
  rw [wgo_byte hc] at h
  obtain ⟨y, t', e⟩ := wgo_prefix r (x.take j ++ [c]) (by simp)
  have hx : x = x.take j ++ [c] ++ y := by rw [e] at h; exact (List.cons.inj h).1.symm
  have hl : (x.take j).length = j := by rw [List.length_take]; omega
  have hc2 : x.getD j 0 = c := by
    rw [List.getD_eq_getElem?_getD, hx, List.append_assoc, List.getElem?_append_right (by omega), hl, Nat.sub_self]; rfl
  have ht : x.take (j + 1) = x.take j ++ [c] := by
    rw [List.take_succ_eq_append_getElem hj]
    rw [List.getD_eq_getElem?_getD, List.getElem?_eq_getElem hj] at hc2
    rw [show x[j] = c from hc2]
  exact ⟨hc2, by rw [ht]; exact h⟩
theorem cur_done {x : List UInt8} {t : List (List UInt8)} (hx : x ≠ []) : ∀ r, wgo x r = x :: t → wgo [] r = t
  | [], h => by rw [wgo_nil x hx] at h; exact (List.cons.inj h).2
  | c :: r, h => by
    cases hc : wh c
    · rw [wgo_byte hc] at h
      obtain ⟨y, t', e⟩ := wgo_prefix r (x ++ [c]) (by simp)
      rw [e] at h
      have := congrArg List.length (List.cons.inj h).1
      simp at this
    · rw [wgo_white hx hc] at h
      rw [wgo_white0 hc]; exact (List.cons.inj h).2
theorem rest_white {c : UInt8} {r : List UInt8} (h : wgo [] (c :: r) = []) : wh c = true ∧ wgo [] r = [] := by
  cases hc : wh c
  · rw [wgo_byte hc] at h
    obtain ⟨y, t', e⟩ := wgo_prefix r ([] ++ [c]) (by simp)
    rw [e] at h; cases h
  · rw [wgo_white0 hc] at h; exact ⟨rfl, h⟩
/-! ### trimming -/
theorem wgo_snoc {c : UInt8} (hc : wh c = true) : ∀ (l cur : List UInt8), wgo cur (l ++ [c]) = wgo cur l
  | [], cur => by
    by_cases h : cur = []
    · subst h; rw [List.nil_append, wgo_white0 hc]
    · rw [List.nil_append, wgo_white h hc, wgo_nil cur h]; rfl
  | d :: l, cur => by
    cases hd : wh d
    · rw [List.cons_append, wgo_byte hd, wgo_byte hd, wgo_snoc hc l]
    · by_cases h : cur = []
      · subst h; rw [List.cons_append, wgo_white0 hd, wgo_white0 hd, wgo_snoc hc l]
      · rw [List.cons_append, wgo_white h hd, wgo_white h hd, wgo_snoc hc l]
theorem wfields_rdrop (l : List UInt8) : wfields (rdrop l) = wfields l := by
  obtain ⟨m, rfl⟩ : ∃ m : List UInt8, l = m.reverse := ⟨l.reverse, by simp⟩
  induction m with
  | nil => rfl
  | cons c m ih =>
    rw [List.reverse_cons, rdrop_snoc]
    cases hc : wh c
    · rfl
    · rw [if_pos rfl, ih]; exact (wgo_snoc hc _ _).symm
theorem wfields_trim (l : List UInt8) : wfields (wtrim l) = wfields l := by
  unfold wtrim; rw [wfields_rdrop, wfields_drop]
theorem rdrop_idem (l : List UInt8) : rdrop (rdrop l) = rdrop l := by
  unfold rdrop
  rw [List.reverse_reverse]
  congr 1
  cases h : l.reverse.dropWhile wh with
  | nil => rfl
  | cons c q => rw [List.dropWhile_cons, dw_head h]; rfl
theorem wtrim_idem (l : List UInt8) : wtrim (wtrim l) = wtrim l := by
  unfold wtrim
  rw [trim_comm, dw_idem, rdrop_idem]
theorem wtrim_head {l : List UInt8} {c : UInt8} {q : List UInt8} (h : wtrim l = c :: q) : wh c = false := by
  unfold wtrim at h
  rw [← trim_comm] at h
  exact dw_head h
theorem wtrim_last {l : List UInt8} {c : UInt8} {q : List UInt8} (h : wtrim l = q ++ [c]) : wh c = false := by
  unfold wtrim rdrop at h
  have := congrArg List.reverse h
  rw [List.reverse_reverse, List.reverse_append] at this
  exact dw_head (q := q.reverse) (by simpa using this)
/-! ### joining -/
theorem wfields_join : ∀ (L : List (List UInt8)), (∀ x ∈ L, x ≠ []) → (∀ x ∈ L, ∀ c ∈ x, wh c = false) → wfields (Lib.join L [32]) = L
  | [], _, _ => rfl
  | [x], h1, h2 => by
    rw [join_one]
    have := wfields_first (h2 x (by simp)) (h1 x (by simp)) (r := []) (.inl rfl)
    rw [List.append_nil] at this
    rw [this]; rfl
  | x :: y :: r, h1, h2 => by
    rw [join_cons, List.append_assoc, show ([32] : List UInt8) ++ Lib.join (y :: r) [32] = 32 :: Lib.join (y :: r) [32] from rfl]
    rw [wfields_first (h2 x (by simp)) (h1 x (by simp)) (.inr ⟨32, _, rfl, rfl⟩), wfields_white rfl]
    rw [wfields_join (y :: r) (fun z hz => h1 z (List.mem_cons_of_mem _ hz)) (fun z hz => h2 z (List.mem_cons_of_mem _ hz))]
theorem wfields_squeeze (l : List UInt8) : wfields (Lib.join (wfields l) [32]) = wfields l :=
  wfields_join _ (wgo_ne l []) (wgo_pure l [] fun c hc => by cases hc)
theorem wgo_both {c : UInt8} (hc : wh c = true) (t : List UInt8) : ∀ (s cur : List UInt8), wgo cur (s ++ c :: t) = wgo cur s ++ wgo [] t
  | [], cur => by
    by_cases h : cur = []
    · subst h; rw [List.nil_append, wgo_white0 hc]; rfl
    · rw [List.nil_append, wgo_white h hc, wgo_nil cur h]; rfl
  | d :: s, cur => by
    cases hd : wh d
    · rw [List.cons_append, wgo_byte hd, wgo_byte hd, wgo_both hc t s]
    · by_cases h : cur = []
      · subst h; rw [List.cons_append, wgo_white0 hd, wgo_white0 hd, wgo_both hc t s]
      · rw [List.cons_append, wgo_white h hd, wgo_white h hd, wgo_both hc t s]; rfl
end Go.Proofs.YtompmkcpicfdfaaDoor

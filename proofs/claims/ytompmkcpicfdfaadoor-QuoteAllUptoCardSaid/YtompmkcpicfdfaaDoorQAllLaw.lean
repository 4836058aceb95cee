/- quote: all lines quoted (plain). -/
import Derived.Test.YtompmkcpicfdfaaDoorQLaw
namespace Go.Proofs.YtompmkcpicfdfaaDoor
open Go.RowKit
set_option linter.unusedVariables false
theorem levG_add : ∀ (l rest : List UInt8) (n : Nat), levG n rest l = (n + (levG 0 rest l).1, (levG 0 rest l).2)
  | [], rest, n => by simp [levG]
  | c :: l, rest, n => by
    rw [levG, levG]
    split
    · exact levG_add l rest n
    · split
      · rw [levG_add l l (n + 1), levG_add l l (0 + 1)]
        simp; omega
      · simp
/-- the rest does not matter but where nothing is counted -/
theorem levG_rest : ∀ (l rest rest' : List UInt8), (levG 0 rest l).1 = (levG 0 rest' l).1 ∧ ((levG 0 rest l).1 = 0 → (levG 0 rest l).2 = rest) ∧ ((levG 0 rest l).1 ≠ 0 → (levG 0 rest l).2 = (levG 0 rest' l).2)
  | [], rest, rest' => by simp [levG]
  | c :: l, rest, rest' => by
    rw [levG, levG]
    split
    · exact levG_rest l rest rest'
    · split
      · refine ⟨rfl, fun h => ?_, fun _ => rfl⟩
        rw [levG_add] at h; simp at h
      · simp
theorem wf_sp (l : List UInt8) : wfields (32 :: l) = wfields l := wfields_white (by decide) l
theorem wf_dropSp (l : List UInt8) : wfields (dropSp l) = wfields l := by
  cases l with
  | nil => rfl
  | cons c l =>
    rw [dropSp]; split
    · rename_i h; subst h; exact (wf_sp l).symm
    · rfl
/-- the words behind the level -/
theorem key_words (l : List UInt8) : wfields (lev l).2 = wfields (levG 0 l l).2 := by
  unfold lev
  split
  · rfl
  · exact wf_dropSp _
/-- one mark, and a space or none behind it -/
theorem key_gt (sp : Bool) (x : List UInt8) : 0 < (levG 0 (62 :: (if sp then 32 :: x else x)) (62 :: (if sp then 32 :: x else x))).1 ∧ wfields (levG 0 (62 :: (if sp then 32 :: x else x)) (62 :: (if sp then 32 :: x else x))).2 = wfields (levG 0 x x).2 := by
  rw [levG, if_neg (by decide), if_pos rfl, levG_add]
  refine ⟨by show 0 < 0 + 1 + _; omega, ?_⟩
  cases sp with
  | false => rfl
  | true =>
    simp only [if_true]
    rw [levG, if_pos rfl]
    obtain ⟨h1, h2, h3⟩ := levG_rest x (32 :: x) x
    obtain ⟨_, h4, _⟩ := levG_rest x x x
    by_cases h : (levG 0 (32 :: x) x).1 = 0
    · rw [h2 h, h4 (by rw [← h1]; exact h)]; exact wf_sp x
    · rw [h3 h]
def marks3 : List (List UInt8) := [[62], [62, 32], [32, 62, 32, 62, 32]]
theorem mark_key (m : List UInt8) (hm : m ∈ marks3) (x : List UInt8) : qtd (m ++ x) = true ∧ keyL (m ++ x) = keyL x := by
  have H : 0 < (levG 0 (m ++ x) (m ++ x)).1 ∧ wfields (levG 0 (m ++ x) (m ++ x)).2 = wfields (levG 0 x x).2 := by
    simp only [marks3, List.mem_cons, List.not_mem_nil, or_false] at hm
    rcases hm with rfl | rfl | rfl
    · exact key_gt false x
    · exact key_gt true x
    · have h1 := key_gt true x
      simp only [if_true] at h1
      have h2 : levG 0 ([32, 62, 32, 62, 32] ++ x) ([32, 62, 32, 62, 32] ++ x) = (0 + 1 + (levG 0 (32 :: 62 :: 32 :: x) (32 :: 62 :: 32 :: x)).1, (levG 0 (32 :: 62 :: 32 :: x) (32 :: 62 :: 32 :: x)).2) := by
        show levG 0 (32 :: 62 :: 32 :: 62 :: 32 :: x) (32 :: 62 :: 32 :: 62 :: 32 :: x) = _
        rw [levG, if_pos rfl, levG, if_neg (by decide), if_pos rfl, levG_add]
      rw [h2]
      refine ⟨by show 0 < 0 + 1 + _; omega, ?_⟩
      show wfields (levG 0 (32 :: 62 :: 32 :: x) (32 :: 62 :: 32 :: x)).2 = _
      rw [levG, if_pos rfl]
      obtain ⟨e1, e2, e3⟩ := levG_rest (62 :: 32 :: x) (32 :: 62 :: 32 :: x) (62 :: 32 :: x)
      rw [e3 (by rw [e1]; omega)]
      exact h1.2
  constructor
  · unfold qtd lev
    split
    · exact decide_eq_true H.1
    · exact decide_eq_true H.1
  · unfold keyL
    rw [key_words, key_words, H.2]
theorem levG_cr : ∀ (l rest : List UInt8) (n : Nat), levG n (rest ++ [13]) (l ++ [13]) = ((levG n rest l).1, (levG n rest l).2 ++ [13])
  | [], rest, n => by simp [levG]
  | c :: l, rest, n => by
    rw [List.cons_append, levG, levG]
    split
    · exact levG_cr l rest n
    · split
      · exact levG_cr l l (n + 1)
      · rfl
theorem wgo_cr : ∀ (l cur : List UInt8), wgo cur (l ++ [13]) = wgo cur l
  | [], cur => by
    rw [List.nil_append]
    show (if wh 13 then (if cur.isEmpty then wgo [] [] else cur :: wgo [] []) else _) = wgo cur []
    rw [show wh 13 = true from rfl]
    cases cur <;> rfl
  | c :: l, cur => by
    rw [List.cons_append, wgo, wgo, wgo_cr l [], wgo_cr l (cur ++ [c])]
theorem key_chomp (x : List UInt8) : keyL (chomp x) = keyL x := by
  unfold chomp Lib.trimSuffix
  split
  · rename_i h
    have h3 : ([13] : List UInt8) <:+ x := by simpa [Lib.hasSuffix] using h
    obtain ⟨t, rfl⟩ := h3
    have e : (t ++ [13]).take ((t ++ [13]).length - ([13] : List UInt8).length) = t := by simp
    rw [e]
    unfold keyL
    rw [key_words, key_words, levG_cr]
    show _ = Lib.join (wgo [] _) [32]
    rw [wgo_cr]; rfl
  · rfl
theorem chomp_mark {m x : List UInt8} (hm : m ∈ marks3) : chomp (m ++ x) = m ++ chomp x := by
  have hl : m.getLast? ≠ some 13 := by
    simp only [marks3, List.mem_cons, List.not_mem_nil, or_false] at hm
    rcases hm with rfl | rfl | rfl <;> decide
  cases x with
  | nil => rw [List.append_nil, chomp_same hl]; simp [chomp, Lib.trimSuffix, Lib.hasSuffix]
  | cons c r =>
    obtain ⟨y, d, hy⟩ : ∃ y d, c :: r = y ++ [d] := ⟨(c :: r).dropLast, (c :: r).getLast (by simp), (List.dropLast_concat_getLast (by simp)).symm⟩
    rw [hy]
    by_cases hd : d = 13
    · subst hd
      rw [← List.append_assoc, chomp_snoc, chomp_snoc]
    · rw [← List.append_assoc, chomp_same (by simpa using hd), chomp_same (by simpa using hd), List.append_assoc]
/-- the quotation of lines -/
def quoteL (m : List UInt8) (ls : List (List UInt8)) : List UInt8 := ls.flatMap fun x => m ++ x ++ [10]
theorem mark_no10 {m : List UInt8} (hm : m ∈ marks3) : ∀ c ∈ m, c ≠ 10 := by
  simp only [marks3, List.mem_cons, List.not_mem_nil, or_false] at hm
  rcases hm with rfl | rfl | rfl <;> decide
theorem wlines_quote {m : List UInt8} (hm : m ∈ marks3) (a : List UInt8) : ∀ ls : List (List UInt8), (∀ x ∈ ls, ∀ c ∈ x, c ≠ 10) → wlines (quoteL m ls ++ a) = ls.map (fun x => m ++ chomp x) ++ wlines a
  | [], _ => rfl
  | x :: ls, h => by
    have hx := h x (by simp)
    rw [show quoteL m (x :: ls) ++ a = (m ++ x) ++ 10 :: (quoteL m ls ++ a) by simp [quoteL], wlines_first, chomp_mark hm, wlines_quote hm a ls fun y hy => h y (by simp [hy])]
    · rfl
    · intro c hc
      rcases List.mem_append.1 hc with hc | hc
      · exact mark_no10 hm c hc
      · exact hx c hc
theorem agr_self : ∀ (x y : List KK), agr (x ++ y) x = x.length
  | [], y => by cases y <;> simp [agr]
  | a :: x, y => by rw [List.cons_append, agr, if_pos rfl, agr_self x y]; rfl
theorem takeWhile_quote {p : List UInt8 → Bool} : ∀ (l r : List (List UInt8)), (∀ x ∈ l, p x = true) → (∀ x q, r = x :: q → p x = false) → ((l ++ r).takeWhile p).length = l.length
  | [], [], _, _ => rfl
  | [], x :: q, _, h => by rw [List.nil_append, List.takeWhile_cons, h x q rfl]; rfl
  | y :: l, r, h, h2 => by
    rw [List.cons_append, List.takeWhile_cons, h y (by simp)]
    simp [takeWhile_quote l r (fun x hx => h x (by simp [hx])) h2]
theorem trim_all {s a m : List UInt8} (hm : m ∈ marks3) (hn : 3 ≤ (wlines s).length) (ha : ∀ x q, wlines a = x :: q → qtd x = false) :
    trimL (quoteL m (wlines s) ++ a) [s] = markL (wlines s).length ++ [10] ++ trimL a [s] := by
  obtain ⟨L, hL⟩ : ∃ L, wlines s = L := ⟨_, rfl⟩
  have h10 : ∀ x ∈ L, ∀ c ∈ x, c ≠ 10 := by rw [← hL]; exact wlines_no s
  rw [hL] at hn ⊢
  unfold trimL
  rw [wlines_quote hm a L h10]
  obtain ⟨Q, hQ⟩ : ∃ Q, L.map (fun x => m ++ chomp x) = Q := ⟨_, rfl⟩
  have hQl : Q.length = L.length := by rw [← hQ, List.length_map]
  have hQk : Q.map keyL = L.map keyL := by
    rw [← hQ, List.map_map]
    refine List.map_congr_left fun x _ => ?_
    show keyL (m ++ chomp x) = keyL x
    rw [(mark_key m hm _).2, key_chomp]
  have hQq : ∀ x ∈ Q, qtd x = true := by
    intro x hx
    rw [← hQ] at hx
    obtain ⟨y, _, rfl⟩ := List.mem_map.1 hx
    exact (mark_key m hm _).1
  have hks : [s].map keysL = [L.map keyL] := by simp [keysL, hL]
  rw [hQ, hks]
  have hrun : runQ (Q ++ wlines a) = L.length := by
    unfold runQ
    rw [takeWhile_quote Q (wlines a) hQq ha, hQl]
  have hq : quotN [L.map keyL] (Q ++ wlines a) = L.length := by
    unfold quotN
    rw [hrun, if_neg (by omega)]
    have hf : firstP ((Q ++ wlines a).map keyL) [L.map keyL] = some (L.map keyL) := by
      unfold firstP
      rw [List.findSome?_cons, List.map_append, hQk]
      have h3 := agr_self (L.map keyL) ((wlines a).map keyL)
      rw [List.length_map] at h3
      cases hk : L.map keyL with
      | nil =>
        have := congrArg List.length hk
        rw [List.length_map] at this
        simp only [List.length_nil] at this; omega
      | cons z zs =>
        rw [hk] at h3
        rw [findIn, if_pos (by omega)]
    rw [hf]
    show min L.length (agr ((Q ++ wlines a).map keyL) (L.map keyL)) = _
    rw [List.map_append, hQk, agr_self, List.length_map, Nat.min_self]
  have hne : Q ++ wlines a ≠ [] := by
    intro h
    have := congrArg List.length h
    rw [List.length_append, hQl] at this
    simp only [List.length_nil] at this; omega
  rcases trimS_step [L.map keyL] (Q ++ wlines a) hne with ⟨h0, _⟩ | ⟨_, h1⟩
  · omega
  · rw [h1, hq, show L.length = Q.length by rw [hQl], List.drop_left]
    simp [unl]
end Go.Proofs.YtompmkcpicfdfaaDoor

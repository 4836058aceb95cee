/- base64 with white bytes among it: plain. -/
import Derived.Test.YtompmkcpicfdfaaDoorB64Law
namespace Go.Proofs.YtompmkcpicfdfaaDoor
open Go.RowKit
set_option linter.unusedVariables false
/-- white bytes in front of each byte -/
def wideL (wl : List UInt8) : List UInt8 → List UInt8
  | [] => []
  | c :: t => wl ++ c :: wideL wl t
theorem wideL_snoc (wl : List UInt8) (c : UInt8) : ∀ l : List UInt8, wideL wl (l ++ [c]) = wideL wl l ++ wl ++ [c]
  | [] => by simp [wideL]
  | d :: l => by rw [List.cons_append, wideL, wideL_snoc wl c l, wideL]; simp
theorem wideL_len (wl : List UInt8) : ∀ l : List UInt8, (wideL wl l).length = l.length * (wl.length + 1)
  | [] => by simp [wideL]
  | d :: l => by
    rw [wideL, List.length_append, List.length_cons, wideL_len wl l, List.length_cons, Nat.add_mul]
    omega
theorem filter_nw_white {wl : List UInt8} (h : ∀ c ∈ wl, wh c = true) : wl.filter nw = [] := by
  rw [List.filter_eq_nil_iff]
  intro c hc
  unfold nw
  rw [h c hc]; simp
theorem filter_nw_wide {wl : List UInt8} (h : ∀ c ∈ wl, wh c = true) : ∀ l : List UInt8, (wideL wl l).filter nw = l.filter nw
  | [] => rfl
  | c :: l => by
    rw [wideL, List.filter_append, filter_nw_white h, List.nil_append, List.filter_cons, List.filter_cons, filter_nw_wide h l]
theorem head_dropWhile {p : UInt8 → Bool} {c : UInt8} {r : List UInt8} : ∀ {l : List UInt8}, l.dropWhile p = c :: r → p c = false
  | [], h => by cases h
  | d :: l, h => by
    rw [List.dropWhile_cons] at h
    split at h
    · exact head_dropWhile h
    · rename_i hp
      injection h with h1 h2
      subst h1
      simpa using hp
theorem dropWhile_nil_all {p : UInt8 → Bool} : ∀ {l : List UInt8}, l.dropWhile p = [] → ∀ c ∈ l, p c = true
  | [], _ => by simp
  | d :: l, h => by
    rw [List.dropWhile_cons] at h
    split at h
    · rename_i hp
      intro c hc
      rcases List.mem_cons.1 hc with rfl | hc
      · exact hp
      · exact dropWhile_nil_all h c hc
    · cases h
theorem wtrim_nil_all {l : List UInt8} (h : wtrim l = []) : ∀ c ∈ l, wh c = true := by
  refine dropWhile_nil_all ?_
  unfold wtrim rdrop at h
  have h1 := List.reverse_eq_nil_iff.1 h
  cases hd : l.dropWhile wh with
  | nil => rfl
  | cons c r =>
    exfalso
    have h2 := head_dropWhile hd
    rw [hd] at h1
    have := dropWhile_nil_all h1 c (by simp)
    rw [h2] at this; cases this
def n61 (c : UInt8) : Bool := c != 61
theorem unb_wide {wl : List UInt8} (h : ∀ c ∈ wl, wh c = true) (l : List UInt8) : unb (wideL wl (enc64 0 l) ++ wl) = (l, true) := by
  unfold unb
  rw [List.filter_append, filter_nw_wide h, filter_nw_white h, List.append_nil, enc64_filter nwD (by decide) (by decide), dec64_e64]
theorem bare_nw (l : List UInt8) : ((enc64 0 l).filter n61).filter nw = e64c l := by
  rw [List.filter_filter]
  have e : (fun a => nw a && n61 a) = (fun a => n61 a && nw a) := by funext a; exact Bool.and_comm _ _
  rw [e, ← List.filter_filter, enc64_filter nwD (by decide) (by decide)]
  unfold e64
  rw [List.filter_append, List.filter_eq_self.2 (e64c_all (p := fun c => n61 c = true) (fun n hn => by have := (D64_facts n hn).2.2.2.1; simpa [n61] using this) l), List.filter_eq_nil_iff.2 (fun c hc => by rw [pad64_all l c hc]; decide), List.append_nil]
theorem unb_bare (l : List UInt8) : unb ((enc64 0 l).filter n61) = (l, decide (l.length % 3 = 0)) := by
  unfold unb
  rw [bare_nw, dec64_bare]
theorem unb_other (l : List UInt8) (x : UInt8) (h1 : isD x = false) (h2 : x ≠ 61) (h3 : wh x = false) : unb ((enc64 0 l).filter n61 ++ [x] ++ enc64 0 l) = (l, false) := by
  unfold unb
  have e : nw x = true := by unfold nw; rw [h3]; rfl
  rw [List.filter_append, List.filter_append, bare_nw, List.filter_cons, e, enc64_filter nwD (by decide) (by decide)]
  simp only [if_true, List.filter_nil, List.append_assoc, List.singleton_append]
  exact dec64_other l _ x h1 h2
theorem isD_eq (c : UInt8) : isD c = decide (c.toNat = 43 ∨ c.toNat = 47 ∨ (48 ≤ c.toNat ∧ c.toNat ≤ 57) ∨ (65 ≤ c.toNat ∧ c.toNat ≤ 90) ∨ (97 ≤ c.toNat ∧ c.toNat ≤ 122)) := by
  have := u8_all (p := fun c => isD c == decide (c.toNat = 43 ∨ c.toNat = 47 ∨ (48 ≤ c.toNat ∧ c.toNat ≤ 57) ∨ (65 ≤ c.toNat ∧ c.toNat ≤ 90) ∨ (97 ≤ c.toNat ∧ c.toNat ≤ 122))) (by decide +kernel) c
  simpa using this
/-- no digit of base64, told by bounds -/
theorem noD_of (c : UInt8) (h : 128 ≤ c.toNat ∨ (c.toNat ≠ 61 ∧ c.toNat ≠ 43 ∧ c.toNat ≠ 47 ∧ ¬ (48 ≤ c.toNat ∧ c.toNat ≤ 57) ∧ ¬ (65 ≤ c.toNat ∧ c.toNat ≤ 90) ∧ ¬ (97 ≤ c.toNat ∧ c.toNat ≤ 122))) : isD c = false ∧ c ≠ 61 ∧ (128 ≤ c.toNat → wh c = false) := by
  refine ⟨?_, ?_, ?_⟩
  · rw [isD_eq]; exact decide_eq_false (by omega)
  · rintro rfl
    have : (61 : UInt8).toNat = 61 := rfl
    omega
  · intro h5; rw [wh_eq]; exact decide_eq_false (by omega)
end Go.Proofs.YtompmkcpicfdfaaDoor

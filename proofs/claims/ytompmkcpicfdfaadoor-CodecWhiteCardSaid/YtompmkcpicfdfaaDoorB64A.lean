/- package codec: what Base64 writes for a group. -/
import Derived.Test.YtompmkcpicfdfaaDoorB64Law
import Derived.Test.YtompmkcpicfdfaaDoorPercB
import Derived.Lib.BufferWrite
import Derived.Laws.BitsAllLaws
namespace Go.Proofs.YtompmkcpicfdfaaDoor
open Go.RowKit
set_option linter.unusedVariables false
theorem ofInt_i64 (a : Nat) (ha : a < 9223372036854775808) : (BitVec.ofInt 64 (a : Int)).toNat = a := by
  rw [BitVec.ofInt_natCast, BitVec.toNat_ofNat]; exact Nat.mod_eq_of_lt (by omega)
theorem i64_and_nat (a b : Nat) (ha : a < 9223372036854775808) (hb : b < 9223372036854775808) : bits .and .i64 (a : Int) (b : Int) = ((a &&& b : Nat) : Int) := by
  have hx : a &&& b < 2 ^ 63 := Nat.and_lt_two_pow _ (by omega)
  show IntKind.i64.wrap ((BitVec.ofInt 64 (a : Int) &&& BitVec.ofInt 64 (b : Int)).toNat : Int) = _
  rw [BitVec.toNat_and, ofInt_i64 a ha, ofInt_i64 b hb, IntKind.wrap_i64]
  omega
theorem i64_or_nat (a b : Nat) (ha : a < 9223372036854775808) (hb : b < 9223372036854775808) : bits .or .i64 (a : Int) (b : Int) = ((a ||| b : Nat) : Int) := by
  have hx : a ||| b < 2 ^ 63 := Nat.or_lt_two_pow (by omega) (by omega)
  show IntKind.i64.wrap ((BitVec.ofInt 64 (a : Int) ||| BitVec.ofInt 64 (b : Int)).toNat : Int) = _
  rw [BitVec.toNat_or, ofInt_i64 a ha, ofInt_i64 b hb, IntKind.wrap_i64]
  omega
/-- the bits of three bytes -/
def bits3 (a b c : UInt8) : Nat := a.toNat * 65536 + b.toNat * 256 + c.toNat
theorem bits3_lt (a b c : UInt8) : bits3 a b c < 16777216 := by
  have := u8lt a; have := u8lt b; have := u8lt c; unfold bits3; omega
theorem bits3_or (a b c : UInt8) : bits BinOp.or IntKind.i64 (bits BinOp.or IntKind.i64 ((a.toNat : Int) * 65536) ((b.toNat : Int) * 256)) (c.toNat : Int) = ((bits3 a b c : Nat) : Int) := by
  have ha := u8lt a; have hb := u8lt b; have hc := u8lt c
  have e1 : bits BinOp.or IntKind.i64 ((a.toNat : Int) * 65536) ((b.toNat : Int) * 256) = ((a.toNat * 65536 + b.toNat * 256 : Nat) : Int) := by
    have := i64_or_nat (a.toNat * 65536) (b.toNat * 256) (by omega) (by omega)
    rw [nat_join 16 _ _ (by omega) (by omega)] at this
    rw [← this]; simp
  rw [e1, i64_or_nat _ _ (by omega) (by omega), nat_join 8 _ _ (by omega) (by omega)]
  rfl
theorem and63 (n : Nat) (hn : n < 9223372036854775808) : bits BinOp.and IntKind.i64 (n : Int) 63 = ((n % 64 : Nat) : Int) := by
  have := i64_and_nat n 63 hn (by decide)
  rw [nat_mask6] at this
  exact this
/-- a group's digits and signs, one by one -/
theorem grp_at : ∀ (x : List UInt8), x ≠ [] → x.length ≤ 3 → ∀ k, k < 4 →
    (grp x)[k]? = some (if x.length < k then 61 else D64 (bits3 (x.getD 0 0) (x.getD 1 0) (x.getD 2 0) / 2 ^ (18 - 6 * k) % 64))
  | [], h, _, _, _ => absurd rfl h
  | [a], _, _, k, hk => by
    have ha := u8lt a
    match k, hk with
    | 0, _ => simp [grp, e64c, pad64, bits3]; congr 1; omega
    | 1, _ => simp [grp, e64c, pad64, bits3]; congr 1; omega
    | 2, _ => simp [grp, e64c, pad64]
    | 3, _ => simp [grp, e64c, pad64]
  | [a, b], _, _, k, hk => by
    have ha := u8lt a; have hb := u8lt b
    match k, hk with
    | 0, _ => simp [grp, e64c, pad64, bits3]; congr 1; omega
    | 1, _ => simp [grp, e64c, pad64, bits3]; congr 1; omega
    | 2, _ => simp [grp, e64c, pad64, bits3]; congr 1; omega
    | 3, _ => simp [grp, e64c, pad64]
  | [a, b, c], _, _, k, hk => by
    have ha := u8lt a; have hb := u8lt b; have hc := u8lt c
    match k, hk with
    | 0, _ => simp [grp, e64c, pad64, bits3]; congr 1; omega
    | 1, _ => simp [grp, e64c, pad64, bits3]; congr 1; omega
    | 2, _ => simp [grp, e64c, pad64, bits3]; congr 1; omega
    | 3, _ => simp [grp, e64c, pad64, bits3]; congr 1; omega
  | _ :: _ :: _ :: _ :: _, _, h, _, _ => by simp at h
theorem enc64_step (t : List UInt8) (h : t ≠ []) (col : Nat) : enc64 col t = grp (t.take 3) ++ if col + 4 = 76 then 10 :: enc64 0 (t.drop 3) else enc64 (col + 4) (t.drop 3) := by
  match t, h with
  | [a], _ => rw [enc64]; simp [enc64]
  | [a, b], _ => rw [enc64]; simp [enc64]
  | a :: b :: c :: r, _ => rw [enc64]; rfl
/-- 'copy(group[:], s)': the first bytes of a string into a row of three zeros. -/
theorem run_copy_group {P : Program} (w : World) (dT sT ty elem te : TypeId) (g : Nat) (s : ByteArray) (hu : P.underlying dT = some (.slice elem)) (hs : (P.info? elem).map (·.size) = some 1) (hg : w.heap[g]? = some (.cells #[.int .u8 0, .int .u8 0, .int .u8 0] te (0, 0))) :
    (Builtin.copy_ #[dT, sT] ty #[.slice (some ⟨g, 0, none⟩) 3 3, .string s]).run P w =
      .ok (.int .i64 (min s.size 3 : Nat)) (w.setRow g #[.int .u8 (s.data.toList.getD 0 0).toNat, .int .u8 (s.data.toList.getD 1 0).toNat, .int .u8 (s.data.toList.getD 2 0).toNat]) := by
  obtain ⟨l, hl⟩ : ∃ l, s.data.toList = l := ⟨_, rfl⟩
  have hsz : s.size = l.length := by rw [← hl, str_size]
  rw [hl, hsz]
  have hlen : (Lib.byteCells (l.take 3)).length = min l.length 3 := by rw [Lib.byteCells_length, List.length_take]; omega
  have hst := run_storeCells_at P g 0 te (Lib.byteCells (l.take 3)) 0 #[.int .u8 0, .int .u8 0, .int .u8 0] w hg (by rw [hlen]; show 0 + 0 + _ ≤ 3; omega) (Lib.byteCells_one _)
  rw [hlen] at hst
  have htk : List.take (min l.length 3) (List.map (fun b : UInt8 => Value.int IntKind.u8 (b.toNat : Int)) l) = Lib.byteCells (l.take 3) := by
    rw [← List.map_take, show l.take (min l.length 3) = l.take 3 by
      rcases Nat.le_total l.length 3 with h | h
      · rw [Nat.min_eq_left h, List.take_length, List.take_of_length_le h]
      · rw [Nat.min_eq_right h]]
    rfl
  have hcells : (List.take 0 (#[Value.int .u8 0, .int .u8 0, .int .u8 0] : Array Value).toList ++ Lib.byteCells (l.take 3) ++ List.drop (0 + min l.length 3) (#[Value.int .u8 0, .int .u8 0, .int .u8 0] : Array Value).toList).toArray = #[.int .u8 (l.getD 0 0).toNat, .int .u8 (l.getD 1 0).toNat, .int .u8 (l.getD 2 0).toNat] := by
    match l with
    | [] => rfl
    | [a] => rfl
    | [a, b] => rfl
    | a :: b :: c :: r =>
      rw [show min (a :: b :: c :: r).length 3 = 3 by simp]
      rfl
  simp only [Nat.add_zero] at hst
  rw [hcells] at hst
  cases hq : P.info? elem with
  | none => simp [hq] at hs
  | some i =>
    simp [hq] at hs
    have hmin : Nat.min l.length 3 = min l.length 3 := rfl
    simp [Builtin.copy_, run_underlying hu, Builtin.lenOf, Builtin.firstCells, sizeOf, typeInfo, hq, hl, hsz, hmin]
    rw [htk, hst]
    simp [Result.andThen, goInt]
end Go.Proofs.YtompmkcpicfdfaaDoor

/- Plain laws: what the ideal machine reckons for functions of Go's library is what their contracts say. -/
import Derived.Test.YtojbkocmobkddaaGreatDoorImS1
import Derived.Lib.SplitLaws
import Derived.Lib.ItoaNum
import Derived.Lib.Join
import Derived.Lib.Bytealg
set_option linter.all false
namespace Go.Im
open Go.Lib
theorem Rh (k n : Nat) (acc : List UInt8) : OT (k + 1) n acc = if n < 10 then UInt8.ofNat (48 + n) :: acc else OT k (n / 10) (UInt8.ofNat (48 + n % 10) :: acc) := by
 show cond (Nat.blt n 10) (UInt8.ofNat (Nat.add 48 n) :: acc) (OT k (Nat.div n 10) (UInt8.ofNat (Nat.add 48 (Nat.mod n 10)) :: acc)) = _
 by_cases h : n < 10
 · have : Nat.blt n 10 = true := Nat.ble_eq_true_of_le h
   rw [this, if_pos h]; rfl
 · have : Nat.blt n 10 = false := by
    cases hb : Nat.blt n 10 with
    | false => rfl
    | true => exact absurd (Nat.le_of_ble_eq_true hb) h
   rw [this, if_neg h]; rfl
theorem U4 : ∀ (k n : Nat) (acc : List UInt8), n < 10 ^ (k + 1) → OT (k + 1) n acc = decDigits n ++ acc
 | 0, n, acc, h => by
  have h : n < 10 := by simpa using h
  rw [Rh, if_pos h, decDigits, dif_pos h]; rfl
 | k + 1, n, acc, h => by
  rw [Rh]
  by_cases hn : n < 10
  · rw [if_pos hn, decDigits, dif_pos hn]; rfl
  · rw [if_neg hn, U4 k (n / 10) _ (by rw [Nat.pow_succ] at h; omega), decDigits.eq_def n, dif_neg hn]
    simp
theorem iO (n : Int) (h0 : -9223372036854775808 ≤ n) (h1 : n ≤ 9223372036854775807) : BO n = itoa n := by
 cases n with
 | ofNat n =>
  have h1 : (n : Int) ≤ 9223372036854775807 := h1
  show OT 20 n [] = _
  rw [U4 19 n [] (by have : n < 9223372036854775808 := by omega
                     exact Nat.lt_trans this (by decide))]
  simp [itoa]
 | negSucc n =>
  have h0 : -9223372036854775808 ≤ Int.negSucc n := h0
  show 45 :: OT 20 (n + 1) [] = _
  rw [U4 19 (n + 1) [] (by have : n + 1 < 9223372036854775809 := by omega
                           exact Nat.lt_trans this (by decide))]
  have : Int.negSucc n < 0 := by omega
  rw [itoa, if_pos this]
  have : (Int.negSucc n).natAbs = n + 1 := by omega
  rw [this]; simp
theorem PY (c : Nat) (hc : c < 256) : ∀ (l : List UInt8) (i : Nat), G6 l c i = if indexByte l c.toUInt8 = -1 then -1 else indexByte l c.toUInt8 + (i : Int)
 | [], i => by simp [G6, indexByte]
 | b :: l, i => by
  show cond (Nat.beq b.toNat c) (Int.ofNat i) (G6 l c (i + 1)) = _
  have hge : ∀ l : List UInt8, ∀ c : UInt8, indexByte l c = -1 ∨ 0 ≤ indexByte l c := by
   intro l c
   induction l with
   | nil => exact .inl rfl
   | cons b l ih =>
    simp only [indexByte]
    by_cases h : (b == c) = true
    · rw [if_pos h]; exact .inr (by decide)
    · rw [if_neg h]
      rcases ih with ih | ih
      · rw [ih]; exact .inl rfl
      · right
        rw [if_neg (by simp; omega)]
        omega
  have hbc : b = c.toUInt8 ↔ b.toNat = c := by
   constructor
   · intro h; rw [h]; simp [Nat.mod_eq_of_lt hc]
   · intro h; rw [← h]; simp
  by_cases h : b.toNat = c
  · rw [Ej h]
    have hb : b = c.toUInt8 := hbc.2 h
    have e0 : indexByte (b :: l) c.toUInt8 = 0 := by rw [indexByte, if_pos (by simp [hb])]
    rw [e0]
    simp
  · rw [Hr h]
    have hb : ¬ (b == c.toUInt8) = true := fun e => h (hbc.1 (by simpa using e))
    rw [show (cond false (Int.ofNat i) (G6 l c (i + 1))) = G6 l c (i + 1) from rfl, PY c hc l (i + 1)]
    have e1 : indexByte (b :: l) c.toUInt8 = if indexByte l c.toUInt8 == -1 then -1 else indexByte l c.toUInt8 + 1 := by rw [indexByte, if_neg hb]
    rcases hge l c.toUInt8 with g | g
    · have e2 : indexByte (b :: l) c.toUInt8 = -1 := by rw [e1, if_pos (by simpa using g)]
      rw [if_pos g, if_pos e2]
    · have h3 : ¬ indexByte l c.toUInt8 = -1 := by omega
      have e2 : indexByte (b :: l) c.toUInt8 = indexByte l c.toUInt8 + 1 := by rw [e1, if_neg (by simpa using h3)]
      rw [if_neg h3, if_neg (by omega), e2]
      omega
theorem U5 (c : Nat) (hc : c < 256) (l : List UInt8) : G6 l c 0 = indexByte l c.toUInt8 := by
 rw [PY c hc l 0]
 split
 · next h => exact h.symm
 · simp
theorem PZ (c : UInt8) : ∀ s : List UInt8, splitK [c] 0 (count s [c]) s = BJ c s
 | [] => by rw [count_miss (by simp [index])]; rfl
 | b :: l => by
  have ih := PZ c l
  show _ = cond (Nat.beq b.toNat c.toNat) ([] :: BJ c l) (pushB b (BJ c l))
  by_cases h : b = c
  · subst h
    rw [count_cons_eq, Ej rfl]
    have hix : index (b :: l) [b] = ((0 : Nat) : Int) := by rw [index]; simp [List.isPrefixOf]
    rw [show 1 + count l [b] = count l [b] + 1 by omega, splitK, hix]
    simp [ih]
  · rw [Hr (fun e => h (UInt8.toNat_inj.1 e)), count_cons_ne b c l h]
    have hp : ([c] : List UInt8).isPrefixOf (b :: l) = false := by simp [List.isPrefixOf, Ne.symm h]
    have hix : index (b :: l) [c] = if index l [c] == -1 then -1 else index l [c] + 1 := by rw [index, hp]; simp
    rw [show (cond false ([] :: BJ c l) (pushB b (BJ c l))) = pushB b (BJ c l) from rfl, ← ih]
    by_cases hm : index l [c] = -1
    · rw [count_miss hm]; rfl
    · have hge := index_ge l [c]
      obtain ⟨j, hj⟩ : ∃ j : Nat, index l [c] = j := ⟨(index l [c]).toNat, by omega⟩
      have hix' : index (b :: l) [c] = ((j + 1 : Nat) : Int) := by rw [hix, if_neg (fun e => hm (beq_iff_eq.1 e)), hj]; omega
      have hcn : count l [c] = 1 + count (l.drop (j + 1)) [c] := by simpa using count_hit (by simp) hj
      rw [hcn, show 1 + count (l.drop (j + 1)) [c] = count (l.drop (j + 1)) [c] + 1 by omega, splitK, splitK, hix', hj]
      have n1 : ¬ (((j + 1 : Nat) : Int) == -1) = true := by simp; omega
      have n2 : ¬ ((j : Int) == -1) = true := by simp
      rw [if_neg n1, if_neg n2]
      simp [pushB]
theorem NM (sep : List UInt8) : ∀ l : List (List UInt8), C9 sep l = join l sep
 | [] => rfl
 | [p] => by simp [C9, join]
 | p :: q :: l => by
  have ih := NM sep (q :: l)
  show p ++ (sep ++ C9 sep (q :: l)) = _
  rw [ih]
  simp [join]
theorem join_length (sep : List UInt8) : ∀ l : List (List UInt8), (C9 sep l).length ≤ Dp l + l.length * sep.length
 | [] => by simp [C9]
 | [p] => by simp [C9, Dp]; omega
 | p :: q :: l => by
  have ih := join_length sep (q :: l)
  show (p ++ (sep ++ C9 sep (q :: l))).length ≤ (p.length + Nat.succ (Dp (q :: l))) + (l.length + 2) * sep.length
  have e : (l.length + 2) * sep.length = (l.length + 1) * sep.length + sep.length := by rw [show l.length + 2 = (l.length + 1) + 1 from rfl, Nat.succ_mul]
  simp only [List.length_append, List.length_cons] at ih ⊢
  omega
theorem KZ : ∀ l : List (List UInt8), l.length ≤ Dp l
 | [] => Nat.le_refl _
 | p :: l => by
  have := KZ l
  show l.length + 1 ≤ p.length + Nat.succ (Dp l)
  omega
end Go.Im

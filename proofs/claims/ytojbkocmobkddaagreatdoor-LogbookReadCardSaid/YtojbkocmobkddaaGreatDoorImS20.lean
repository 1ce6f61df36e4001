/- The ideal machine: comparison of arrays and structs of ints. -/
import Derived.Test.YtojbkocmobkddaaGreatDoorImS4
import Derived.ChangeKeysEq
set_option linter.all false
namespace Go.Im
theorem Nz {a b : Int} {l l' : List Value} {r : Bool} (h : Du (.int .i64 a :: l) (.int .i64 b :: l') = some r) : (a = b ∧ Du l l' = some r) ∨ (a ≠ b ∧ r = false) := by
 simp only [Du, Gq, Ag] at h
 obtain ⟨c, h1, h2⟩ := h
 have h1 : some (eqF a b) = some c := h1
 obtain rfl := Option.some.inj h1
 rw [JA] at h2
 by_cases e : a = b
 · rw [decide_eq_true e] at h2
   exact .inl ⟨e, h2⟩
 · rw [decide_eq_false e] at h2
   exact .inr ⟨e, (Option.some.inj h2).symm⟩
theorem KD {n : Nat} {l : List Value} (h : ints (n + 1) l = true) : ∃ a t, l = .int .i64 a :: t ∧ ints n t = true := by
 cases l with
 | nil => simp [ints] at h
 | cons v t =>
  cases v <;> try (simp [ints] at h; done)
  case int k a =>
   cases k <;> first | exact ⟨a, t, rfl, h⟩ | (simp [ints] at h; done)
theorem Lr {l : List Value} (h : ints 0 l = true) : l = [] := by
 cases l with
 | nil => rfl
 | cons v t => simp [ints] at h
theorem drop_cons {xs : Array Value} {o : Nat} {v : Value} {t : List Value} (h : xs.toList.drop o = v :: t) : xs[o]? = some v ∧ xs.toList.drop (o + 1) = t := by
 constructor
 · have : (xs.toList.drop o)[0]? = some v := by rw [h]; rfl
   rw [List.getElem?_drop] at this
   simpa using this
 · rw [← List.drop_drop (i := 1) (j := o), h]
   rfl
section
variable {P : Program}
theorem Ls {e : TypeId} (hu : P.underlying e = some (.int .i64)) (hk : P.plainKey e = true) (d : Nat) (w : World) (xs ys : Array Value) : ∀ (n o : Nat) (l l' : List Value) (r : Bool),
 xs.toList.drop o = l → ys.toList.drop o = l' → ints n l = true → ints n l' = true → Du l l' = some r → (Op.eqItems (d + 1) e 1 xs ys (List.range' o n)).run P w = .ok r w
 | 0, o, l, l', r, _, _, hl, hl', h => by
  obtain rfl := Lr hl
  obtain rfl := Lr hl'
  obtain rfl := Option.some.inj h
  simp [Op.eqItems]
 | n + 1, o, l, l', r, hx, hy, hl, hl', h => by
  obtain ⟨a, t, rfl, h1⟩ := KD hl
  obtain ⟨b, t', rfl, h2⟩ := KD hl'
  obtain ⟨g1, g2⟩ := drop_cons hx
  obtain ⟨g3, g4⟩ := drop_cons hy
  rw [List.range'_succ]
  simp only [Op.eqItems, Sem.run_bind, Nat.mul_one, run_part_plain w hk g1, run_part_plain w hk g3, Result.andThen_ok, run_equalIn_int w d e .i64 .i64 a b hu]
  rcases Nz h with ⟨rfl, h3⟩ | ⟨hne, rfl⟩
  · simp only [beq_self_eq_true, Bool.not_true, Bool.false_eq_true, if_false]
    exact Ls hu hk d w xs ys n (o + 1) t t' r g2 g4 h1 h2 h3
  · have : (a == b) = false := by simpa using hne
    simp [this]
theorem Ji.array {t e n : Nat} {i : TypeInfo} (ht : P.underlying t = some (.array n e)) (hi : P.info? e = some i) (hc : P.cellsOf e = 1) (hu : P.underlying e = some (.int .i64)) (hk : P.plainKey e = true)
 (hg : P.eqGuardType P.depth t = false) (hn : isz P t = some n) : Ji P t := by
 intro k l l' r x y w hk' hl hl' h
 obtain rfl : n = k := Option.some.inj (hn.symm.trans hk')
 refine ⟨fun op => .inr (run_eqGuard_agg w op t x y ⟨l⟩ ⟨l'⟩ hg), ?_⟩
 show (Op.equalIn (9998 + 2) t (.agg ⟨l⟩) (.agg ⟨l'⟩)).run P w = _
 rw [run_equalIn_array w (9998 + 1) ⟨l⟩ ⟨l'⟩ ht hi, hc, List.range_eq_range']
 exact Ls hu hk 9998 w ⟨l⟩ ⟨l'⟩ n 0 l l' r rfl rfl hl hl' h
def fsOk (P : Program) : Nat → List Field → Bool
 | _, [] => true
 | o, f :: fs => decide (f.name ≠ "_") && decide (f.offset = o) && decide (isI (P.underlying f.type) = some .i64) && P.plainKey f.type && fsOk P (o + 1) fs
theorem KW (d : Nat) (w : World) (xs ys : Array Value) : ∀ (fs : List Field) (o : Nat) (l l' : List Value) (r : Bool), fsOk P o fs = true →
 xs.toList.drop o = l → ys.toList.drop o = l' → ints fs.length l = true → ints fs.length l' = true → Du l l' = some r → (Op.eqFields (d + 1) xs ys fs).run P w = .ok r w
 | [], o, l, l', r, _, _, _, hl, hl', h => by
  obtain rfl := Lr hl
  obtain rfl := Lr hl'
  obtain rfl := Option.some.inj h
  simp [Op.eqFields]
 | f :: fs, o, l, l', r, hf, hx, hy, hl, hl', h => by
  obtain ⟨a, t, rfl, h1⟩ := KD hl
  obtain ⟨b, t', rfl, h2⟩ := KD hl'
  obtain ⟨g1, g2⟩ := drop_cons hx
  obtain ⟨g3, g4⟩ := drop_cons hy
  unfold fsOk at hf
  simp only [Bool.and_eq_true, decide_eq_true_eq] at hf
  obtain ⟨⟨⟨⟨hn, rfl⟩, hu⟩, hk⟩, hr⟩ := hf
  have hu : P.underlying f.type = some (.int .i64) := by
   cases e : P.underlying f.type with
   | none => rw [e] at hu; cases hu
   | some d => rw [e] at hu; cases d <;> try (cases hu; done)
               case int k => simp [isI] at hu; rw [hu]
  simp only [Op.eqFields, hn, ne_eq, not_false_eq_true, if_true, Sem.run_bind, run_part_plain w hk g1, run_part_plain w hk g3, Result.andThen_ok, run_equalIn_int w d f.type .i64 .i64 a b hu]
  rcases Nz h with ⟨rfl, h3⟩ | ⟨hne, rfl⟩
  · simp only [beq_self_eq_true, Bool.not_true, Bool.false_eq_true, if_false]
    exact KW d w xs ys fs (f.offset + 1) t t' r hr g2 g4 h1 h2 h3
  · have : (a == b) = false := by simpa using hne
    simp [this]
theorem Ji.struct {t : Nat} (ht : P.underlying t = some (.struct (P.fieldsOf t))) (hp : P.stoodInHeld t = false) (hg : P.eqGuardType P.depth t = false) (hf : fsOk P 0 (P.fieldsOf t).toList = true)
 (hn : isz P t = some (P.fieldsOf t).toList.length) : Ji P t := by
 intro k l l' r x y w hk' hl hl' h
 obtain rfl := Option.some.inj (hn.symm.trans hk')
 refine ⟨fun op => .inr (run_eqGuard_agg w op t x y ⟨l⟩ ⟨l'⟩ hg), ?_⟩
 show (Op.equalIn (9998 + 2) t (.agg ⟨l⟩) (.agg ⟨l'⟩)).run P w = _
 rw [run_equalIn_struct w (9998 + 1) t ⟨l⟩ ⟨l'⟩ ht hp]
 exact KW 9998 w ⟨l⟩ ⟨l'⟩ _ 0 l l' r hf rfl rfl hl hl' h
end
end Go.Im

/- The ideal machine: its pure operations stand for the model's (2). -/
import Derived.Test.YtojbkocmobkddaaGreatDoorImS4
import Derived.Laws.Cover1
set_option linter.all false
namespace Go.Im
def VB (P : Program) (T : MT) : Prop := ∀ t n f, T.find t n = some f → ∀ (a : Addr) (w : World),
 (method (P.types.size + Made.depth) t (.pointer (some a)) n).run P w = .ok (f, .pointer (some a)) w ∧ (nilAhead (P.types.size + Made.depth) t (.pointer (some a)) n).run P w = .ok (some false) w
section
variable {X : Cx} {T : MT} {m : Map} {env : Env} {a : Act}
theorem BH.VD {m : Map} {b : Bool} {v : Value} (h : BH m (.bool b) v) : v = .bool b := by cases h; rfl
theorem BH.Gf {m : Map} {k : IntKind} {n : Int} {v : Value} (h : BH m (.int k n) v) : v = .int k n := by cases h; rfl
theorem BH.Yq {m : Map} {l : Array Value} {v : Value} (h : BH m (.tuple l) v) : ∃ l', v = .tuple ⟨l'⟩ ∧ CJ m l.toList l' := by
 cases h with | tuple h => exact ⟨_, rfl, h⟩
theorem run_sizeOf {P : Program} {t n : Nat} (h : isz P t = some n) (w : World) : (sizeOf t).run P w = .ok n w := by
 unfold isz at h
 cases hi : P.info? t with
 | none => simp [hi] at h
 | some i => simp [hi] at h; simp [sizeOf, typeInfo, hi, h]
theorem Eo {P : Program} {t : Nat} {v : Value} (h : Gs P t = some v) (w : World) : (zeroValue t).run P w = .ok v w := by
 unfold Gs at h
 cases hi : P.info? t with
 | none => simp [hi] at h
 | some i => simp [hi] at h; simp [zeroValue, typeInfo, hi, h]
theorem Gn {P : Program} {t : Nat} {b : Bool} (h : Kv P t = some b) (w : World) : (isAgg t).run P w = .ok b w := by
 unfold Kv at h
 cases hu : P.underlying t with
 | none => simp [hu] at h
 | some d => cases d <;> simp [hu] at h <;> subst h <;> simp [isAgg, run_underlying hu]
theorem Lp {P : Program} {t : Nat} {k : IntKind} (h : isI (P.underlying t) = some k) : P.underlying t = some (.int k) := by
 cases hu : P.underlying t with
 | none => simp [hu, isI] at h
 | some d => cases d <;> simp [hu, isI] at h; subst h; rfl
theorem DT {P : Program} {t e : Nat} (h : Fg (P.underlying t) = some e) : P.underlying t = some (.slice e) := by
 cases hu : P.underlying t with
 | none => simp [hu, Fg] at h
 | some d => cases d <;> simp [hu, Fg] at h; subst h; rfl
theorem Ht {P : Program} {t n e : Nat} (h : Kw (P.underlying t) = some (n, e)) : P.underlying t = some (.array n e) := by
 cases hu : P.underlying t with
 | none => simp [hu, Kw] at h
 | some d => cases d <;> simp [hu, Kw] at h; obtain ⟨rfl, rfl⟩ := h; rfl
theorem EM {P : Program} {t : Nat} (h : isStr (P.underlying t) = true) : P.underlying t = some .string := by
 cases hu : P.underlying t with
 | none => simp [hu, isStr] at h
 | some d => cases d <;> simp [hu, isStr] at h; rfl
theorem KU {P : Program} {t : Nat} {fs : Array Field} (h : Jf (P.underlying t) = some fs) : P.underlying t = some (.struct fs) := by
 cases hu : P.underlying t with
 | none => simp [hu, Jf] at h
 | some d => cases d <;> simp [hu, Jf] at h; subst h; rfl
theorem Hu {m : Map} {v v' : Value} (h : BH m v v') : CJ m (cellsOf v) v'.cells.toList := by
 cases h with
 | agg h => exact h
 | _ => exact .cons (by constructor <;> assumption) .nil
theorem Tt (hE : CB m env a.tmps) (hG : OY X.G m) {place : Nat → Option (Nat × Nat)} : ∀ {ps : List (Nat × Nat × Operand)} {qs : List (Nat × Operand)} {l : List (Nat × Nat × Value)},
 GZ X.G place ps qs = true → evP env ps = some l → ∃ l' : List (Nat × Value), l' = qs.map (fun q => (q.1, a.eval q.2)) ∧
  l.length = l'.length ∧ ∀ (i o n : Nat) (v : Value), l[i]? = some (o, n, v) → ∃ (j : Nat) (v' : Value), l'[i]? = some (j, v') ∧ place j = some (o, n) ∧ BH m v v'
 | [], [], l, _, hv => by simp [evP] at hv; subst hv; exact ⟨_, rfl, rfl, fun i o n v h => by simp at h⟩
 | (o, n, x) :: ps, (i, y) :: qs, l, h, hv => by
  simp [GZ] at h
  simp only [evP, Ag] at hv
  obtain ⟨v, h1, vs, h2, h3⟩ := hv
  simp at h3; subst h3
  obtain ⟨l', rfl, hlen, hall⟩ := Tt hE hG h.2 h2
  refine ⟨_, rfl, by simpa using hlen, fun k o' n' u hu => ?_⟩
  cases k with
  | zero =>
   simp at hu
   obtain ⟨rfl, rfl, rfl⟩ := hu
   exact ⟨i, a.eval y, by simp, h.1.1, Bd hE hG h.1.2 h1⟩
  | succ k => simpa using hall k o' n' u (by simpa using hu)
 | [], _ :: _, _, h, _ => by simp [GZ] at h
 | _ :: _, [], _, h, _ => by simp [GZ] at h
theorem Ny {c vs c' : List Value} {o : Nat} (h : splice c o vs = some c') : o + vs.length ≤ c.length ∧ c' = c.take o ++ (vs ++ c.drop (o + vs.length)) := by
 unfold splice at h
 cases hb : Nat.ble (Nat.add o vs.length) c.length with
 | false => rw [hb] at h; simp at h
 | true =>
  rw [hb] at h
  exact ⟨Ae.1 hb, (Option.some.inj h).symm⟩
theorem Jj {c l : List Value} {o n : Nat} (h : sub c o n = some l) : o + n ≤ c.length ∧ l = (c.drop o).take n := by
 unfold sub at h
 cases hb : Nat.ble (Nat.add o n) c.length with
 | false => rw [hb] at h; simp at h
 | true =>
  rw [hb] at h
  exact ⟨Ae.1 hb, (Option.some.inj h).symm⟩
theorem foldl_set (off : Nat) : ∀ (vs : List Value) (k : Nat) (c : Array Value), off + k + vs.length ≤ c.size →
 ((vs.zipIdx k).foldl (fun (cs : Array Value) (x : Value × Nat) => cs.setIfInBounds (off + x.2) x.1) c).toList = c.toList.take (off + k) ++ (vs ++ c.toList.drop (off + k + vs.length))
 | [], k, c, _ => by simp
 | v :: vs, k, c, h => by
  simp only [List.zipIdx_cons, List.foldl_cons]
  simp only [List.length_cons] at h
  rw [foldl_set off vs (k + 1) (c.setIfInBounds (off + k) v) (by simp; omega)]
  have hi : off + k < c.toList.length := by simp; omega
  have e : (c.setIfInBounds (off + k) v).toList = c.toList.take (off + k) ++ v :: c.toList.drop (off + k + 1) := by
   rw [Array.toList_setIfInBounds, List.set_eq_take_append_cons_drop, if_pos hi]
  have hl : (c.toList.take (off + k)).length = off + k := by rw [List.length_take]; omega
  have e1 : (c.setIfInBounds (off + k) v).toList.take (off + (k + 1)) = c.toList.take (off + k) ++ [v] := by
   have h1 : off + (k + 1) - (off + k) = 1 := by omega
   rw [e, List.take_append, hl, List.take_of_length_le (by omega), h1]
   simp
  have e2 : (c.setIfInBounds (off + k) v).toList.drop (off + (k + 1) + vs.length) = c.toList.drop (off + k + (vs.length + 1)) := by
   rw [e, List.drop_append, hl, List.drop_of_length_le (by omega)]
   have : off + (k + 1) + vs.length - (off + k) = vs.length + 1 := by omega
   rw [this, List.nil_append, List.drop_succ_cons, List.drop_drop]
   congr 1; omega
  rw [e1, e2]
  simp
theorem P7 {place : Nat → Option (Nat × Nat)} : ∀ {l : List (Nat × Nat × Value)} {l' : List (Nat × Value)} {z c : List Value} {z' : Array Value}, l.length = l'.length →
 (∀ (i o n : Nat) (v : Value), l[i]? = some (o, n, v) → ∃ (j : Nat) (v' : Value), l'[i]? = some (j, v') ∧ place j = some (o, n) ∧ BH m v v') → CJ m z z'.toList → fill z l = some c →
 ∃ c', Instr.fill place z' l' = some c' ∧ CJ m c c'.toList
 | [], [], z, c, z', _, _, hz, h => by simp [fill] at h; subst h; exact ⟨z', rfl, hz⟩
 | (o, n, v) :: l, (j, v') :: l', z, c, z', hlen, hall, hz, h => by
  obtain ⟨j', u', h1, h2, h3⟩ := hall 0 o n v (by simp)
  simp at h1
  obtain ⟨rfl, rfl⟩ := h1
  simp only [fill] at h
  have hcl := (Hu h3).length
  cases hb : Nat.beq (cellsOf v).length n with
  | false => rw [hb] at h; simp at h
  | true =>
   rw [hb] at h
   simp only [cond_true, Ag] at h
   obtain ⟨c1, hs, hf⟩ := h
   have hn := beq_iff.1 hb
   obtain ⟨hle, hc1⟩ := Ny hs
   have hzl := hz.length
   have hsz : v'.cells.size = n := by rw [← hn, hcl]; simp
   have hrel : CJ m c1 (v'.cells.zipIdx.foldl (fun cs x => cs.setIfInBounds (o + x.2) x.1) z').toList := by
    have hfs := foldl_set o v'.cells.toList 0 z' (by simp at hzl; simp; omega)
    have e : (v'.cells.zipIdx.foldl (fun cs x => cs.setIfInBounds (o + x.2) x.1) z') = (v'.cells.toList.zipIdx.foldl (fun (cs : Array Value) x => cs.setIfInBounds (o + x.2) x.1) z') := by
     rw [← Array.foldl_toList, Array.toList_zipIdx]
    rw [e, hfs, hc1]
    simp only [Nat.add_zero]
    refine (hz.take o).append ((Hu h3).append ?_)
    rw [hcl]
    exact hz.drop _
   obtain ⟨c', hc', hr⟩ := P7 (l := l) (l' := l') (z' := v'.cells.zipIdx.foldl (fun cs x => cs.setIfInBounds (o + x.2) x.1) z') (by simpa using hlen) (fun i o n v hi => by simpa using hall (i + 1) o n v (by simpa using hi)) hrel hf
   refine ⟨c', ?_, hr⟩
   simp only [Instr.fill, h2]
   rw [if_neg]
   · exact hc'
   · simp only [hsz, ne_eq, not_true_eq_false, decide_false, Bool.false_or, decide_eq_true_eq, gt_iff_lt, Nat.not_lt]
     simp at hzl; omega
 | [], _ :: _, _, _, _, h, _, _, _ => by simp at h
 | _ :: _, [], _, _, _, h, _, _, _ => by simp at h
end
end Go.Im

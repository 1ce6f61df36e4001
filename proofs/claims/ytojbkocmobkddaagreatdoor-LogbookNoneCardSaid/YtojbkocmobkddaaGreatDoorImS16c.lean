/- The ideal machine: regions that draw their order (3): one operation; the whole. -/
import Derived.Test.YtojbkocmobkddaaGreatDoorImS16b
namespace Go.Im
theorem exists_least {p : Nat → Prop} : ∀ n, (∃ k, k ≤ n ∧ p k) → ∃ k, p k ∧ ∀ j, p j → k ≤ j := by
  intro n
  induction n with
  | zero =>
    rintro ⟨k, hk, h⟩
    obtain rfl : k = 0 := by omega
    exact ⟨0, h, fun j _ => Nat.zero_le j⟩
  | succ n ih =>
    rintro ⟨k, hk, h⟩
    by_cases hex : ∃ k, k ≤ n ∧ p k
    · exact ih hex
    · refine ⟨k, h, fun j hj => ?_⟩
      rcases Nat.lt_or_ge j k with g | g
      · exact absurd ⟨j, by omega, hj⟩ hex
      · exact g
section
variable {X : Cx} {T : MT} {self : Self} {env : Env} {s : IState} {l : List (IOper × List Nat)} {rs : List Rec} {env' : Env} {s' : IState} {S : Nat → IState} {E : Nat → Env} {V : Nat → Value}

theorem iRead_loc {s s2 : IState} {o : ROp} (h : ∀ v b, ev env (rdOpnd o) = some v → rdBase v = some b → s2.get b = s.get b) : iRead env s2 o = iRead env s o := by
  cases o with
  | ld x =>
    show ob (ev env x) (rLd s2) = ob (ev env x) (rLd s)
    cases hx : ev env x with
    | none => rfl
    | some v =>
      simp only [ob_some]
      cases v <;> try rfl
      case pointer p =>
        cases p with
        | none => rfl
        | some ad => simp only [rLd, IState.rd1]; rw [h _ _ hx rfl]
  | ldN k x =>
    show ob (ev env x) (rLdN s2 k) = ob (ev env x) (rLdN s k)
    cases hx : ev env x with
    | none => rfl
    | some v =>
      simp only [ob_some]
      cases v <;> try rfl
      case pointer p =>
        cases p with
        | none => rfl
        | some ad => simp only [rLdN, IState.rd]; rw [h _ _ hx rfl]
  | slSl el k x lo hi mx =>
    show (ob (evO env lo) fun l => ob (evO env hi) fun h => ob (evO env mx) fun m => ob (ev env x) (rSl s2 el k l h m)) = (ob (evO env lo) fun l => ob (evO env hi) fun h => ob (evO env mx) fun m => ob (ev env x) (rSl s el k l h m))
    cases hx : ev env x with
    | none => rfl
    | some v =>
      have : ∀ l h' m, rSl s2 el k l h' m v = rSl s el k l h' m v := by
        intro l' h' m'
        cases v <;> try rfl
        case slice p len cap =>
          cases p with
          | none => rfl
          | some ad => simp only [rSl]; rw [h _ _ hx rfl]
      simp only [ob_some, this]
  | bstr x =>
    show ob (ev env x) (rBstr s2) = ob (ev env x) (rBstr s)
    cases hx : ev env x with
    | none => rfl
    | some v =>
      simp only [ob_some]
      cases v <;> try rfl
      case slice p len cap =>
        cases p with
        | none => rfl
        | some ad => simp only [rBstr, IState.rd]; rw [h _ _ hx rfl]
  | look z ok x i =>
    show ev2 env x i (rLook s2 z ok) = ev2 env x i (rLook s z ok)
    cases hx : ev env x with
    | none => simp only [ev2, hx, ob_none]
    | some v =>
      have : ∀ u, rLook s2 z ok v u = rLook s z ok v u := by
        intro u
        cases v <;> try rfl
        case map p =>
          cases p with
          | none => rfl
          | some ad => simp only [rLook]; rw [h _ _ hx rfl]
      simp only [ev2, hx, ob_some, this]
  | lenM x =>
    show ob (ev env x) (rLenM s2) = ob (ev env x) (rLenM s)
    cases hx : ev env x with
    | none => rfl
    | some v =>
      simp only [ob_some]
      cases v <;> try rfl
      case map p =>
        cases p with
        | none => rfl
        | some ad => simp only [rLenM]; rw [h _ _ hx rfl]

theorem Trace.stateAt (ht : Trace T self l env s rs env' s' S E V) {w : Nat} (hw : w ≤ l.length) : stateAt rs s' w = S w := by
  unfold Go.Im.stateAt
  rw [nth_eq]
  by_cases e : w < l.length
  · obtain ⟨o, ho⟩ : ∃ o, l[w]? = some o := ⟨l[w]'e, List.getElem?_eq_getElem _⟩
    rw [(ht.step w o ho).2.2.2]
  · have : w = l.length := by omega
    subst this
    rw [List.getElem?_eq_none (by rw [ht.len]; exact Nat.le_refl _), ht.sn]

theorem readOp_some {o : ROp} {v : Value} {s : IState} (h : readOp env s v (.r o) = true) : iRead env s o = some v ∧ (∀ u b, ev env (rdOpnd o) = some u → rdBase u = some b → b < s.nx) := by
  unfold readOp at h
  have hc : rdThere s (ev env (rdOpnd o)) = true ∧ (match iRead env s o with | some v' => veq v v' | none => false) = true := by
    cases hb : rdThere s (ev env (rdOpnd o)) with
    | false => simp only [hb] at h; cases h
    | true => simp only [hb] at h; exact ⟨rfl, h⟩
  refine ⟨?_, fun u b hu hb => ?_⟩
  · have h2 := hc.2
    cases hr : iRead env s o with
    | none => rw [hr] at h2; cases h2
    | some v' => rw [hr] at h2; rw [veq_eq h2]
  · have h1 := hc.1
    rw [hu] at h1
    simp only [rdThere] at h1
    rw [hb] at h1
    exact blt_iff.1 h1

theorem chk_listed {r w : Nat} {rec_ : Rec} {o : IOper × List Nat} : ∀ {rds : List (Nat × List Nat)}, chkRds rs s' l rds = true → listed r w rds = true → rs[r]? = some rec_ → l[r]? = some o → want rec_.env o.1.guard = some true →
    readOp rec_.env (Go.Im.stateAt rs s' w) rec_.v o.1.op = true ∧ readOp rec_.env (Go.Im.stateAt rs s' (w + 1)) rec_.v o.1.op = true
  | [], _, h, _, _, _ => by simp [listed] at h
  | (j, ws) :: rds, hc, h, hr, ho, hw => by
    have hc' : chkO rs s' ws (nth rs j) (nth l j) = true ∧ chkRds rs s' l rds = true := by
      unfold chkRds at hc
      cases hb : chkO rs s' ws (nth rs j) (nth l j) with
      | false => rw [hb] at hc; cases hc
      | true => rw [hb] at hc; exact ⟨rfl, hc⟩
    simp only [listed, Bool.or_eq_true, Bool.and_eq_true, decide_eq_true_eq] at h
    rcases h with ⟨rfl, hmem⟩ | h
    · have h1 := hc'.1
      rw [nth_eq, nth_eq, hr, ho] at h1
      simp only [chkO, hw, chkW] at h1
      have all : ∀ (ws : List Nat), chkAll rs s' rec_ o.1.op ws = true → w ∈ ws → readOp rec_.env (Go.Im.stateAt rs s' w) rec_.v o.1.op = true ∧ readOp rec_.env (Go.Im.stateAt rs s' (w + 1)) rec_.v o.1.op = true := by
        intro ws
        induction ws with
        | nil => intro _ h; simp at h
        | cons x ws ih =>
          intro h hm
          unfold chkAll at h
          cases hb : (readOp rec_.env (Go.Im.stateAt rs s' x) rec_.v o.1.op && readOp rec_.env (Go.Im.stateAt rs s' (Nat.succ x)) rec_.v o.1.op) with
          | false => rw [hb] at h; cases h
          | true =>
            rw [hb] at h
            rcases List.mem_cons.1 hm with rfl | hm
            · simp only [Bool.and_eq_true] at hb; exact hb
            · exact ih h hm
      exact all ws h1 hmem
    · exact chk_listed hc'.2 h hr ho hw
end
end Go.Im

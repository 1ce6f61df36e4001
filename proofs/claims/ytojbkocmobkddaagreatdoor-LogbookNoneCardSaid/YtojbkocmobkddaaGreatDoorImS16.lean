/- The ideal machine: regions that draw their order. -/
import Derived.Test.YtojbkocmobkddaaGreatDoorImS15
namespace Go.Im
theorem beqL_eq {a b : List UInt8} (h : eqL a b = true) : a = b := by rw [eqL_eq] at h; exact of_decide_eq_true h
theorem toL_inj {a b : ByteArray} (h : toL a = toL b) : a = b := by rw [← ofL_toL a, ← ofL_toL b, h]
theorem veqS_eq : ∀ {a b : Value}, veqS a b = true → a = b := by
  intro a b h
  unfold veqS at h
  split at h
  · simpa using h
  · simp only [Bool.and_eq_true, ikEq_eq, eqF_eq, decide_eq_true_eq] at h
    rw [h.1, h.2]
  · rw [toL_inj (beqL_eq h)]
  · rfl
  · simp only [Bool.and_eq_true] at h
    rw [beq_iff.1 h.1, beq_iff.1 h.2]
  · simp only [Bool.and_eq_true] at h
    rw [beq_iff.1 h.1, beq_iff.1 h.2]
  · simp only [Bool.and_eq_true] at h
    rw [beq_iff.1 h.1.1.1, beq_iff.1 h.1.1.2, beq_iff.1 h.1.2, beq_iff.1 h.2]
  · rfl
  · rw [beq_iff.1 h]
  · rfl
  · rfl
  · simp at h
theorem veqL_eq : ∀ {a b : List Value}, veqL a b = true → a = b
  | [], [], _ => rfl
  | x :: l, y :: l', h => by
    simp only [veqL, Bool.and_eq_true] at h
    rw [veqS_eq h.1, veqL_eq h.2]
  | [], _ :: _, h => by simp [veqL] at h
  | _ :: _, [], h => by simp [veqL] at h
theorem arr_eq {a b : Array Value} (h : veqL a.toList b.toList = true) : a = b := Array.ext' (veqL_eq h)
theorem veq_eq : ∀ {a b : Value}, veq a b = true → a = b := by
  intro a b h
  unfold veq at h
  split at h
  · simp only [Bool.and_eq_true] at h
    rw [beq_iff.1 h.1, veqS_eq h.2]
  · rw [arr_eq h]
  · rw [arr_eq h]
  · simp only [Bool.and_eq_true] at h
    rw [beq_iff.1 h.1.1, arr_eq h.1.2, arr_eq h.2]
  · exact veqS_eq h

section
variable {X : Cx} {T : MT} {self : Self} {m : Map} {s : IState} {w : World} {env : Env} {a : Act} {F : Fence} {inR : Bool} {n : Nat}

/-- A run of a region in the order of the text, laid open. -/
structure Trace (T : MT) (sf : Self) (ops : List (IOper × List Nat)) (env : Env) (s : IState) (rs : List Rec) (env' : Env) (s' : IState) (S : Nat → IState) (E : Nat → Env) (V : Nat → Value) : Prop where
  s0 : S 0 = s
  e0 : E 0 = env
  sn : S ops.length = s'
  en : E ops.length = env'
  len : rs.length = ops.length
  step : ∀ i o, ops[i]? = some o → stepO T sf (Env.keep (E i) o.2) (S i) o.1 = .ok (V i, S (i + 1)) ∧ (S i).nx ≤ (S (i + 1)).nx ∧ E (i + 1) = Env.put (E i) (V i) o.1.dst ∧ rs[i]? = some ⟨S i, Env.keep (E i) o.2, V i⟩

theorem onlyOk_all {α β : Type} {x : R α} {f : α → R β} {Q : β → Prop} (h : (onlyOk x f).all Q) : ∃ a, x = .ok a ∧ (f a).all Q := by
  cases x with
  | ok a => exact ⟨a, rfl, h⟩
  | bad n => exact h.elim
  | ch n k => exact h.elim

theorem runOpsD_trace {β : Type} {Q : β → Prop} : ∀ (ops : List (IOper × List Nat)) (env : Env) (s : IState) (acc : List Rec) (K : Env → IState → List Rec → R β), (runOpsD T self ops env s acc K).all Q →
    ∃ rs env' s' S E V, Trace T self ops env s rs env' s' S E V ∧ (K env' s' (rs.reverse ++ acc)).all Q
  | [], env, s, acc, K, h => ⟨[], env, s, fun _ => s, fun _ => env, fun _ => undefV, ⟨rfl, rfl, rfl, rfl, rfl, fun i o h => by simp at h⟩, h⟩
  | o :: ops, env, s, acc, K, h => by
    obtain ⟨⟨v, s1⟩, h1, h2⟩ := onlyOk_all (show (onlyOk (stepO T self (Env.keep env o.2) s o.1) fun r => cond (Nat.ble s.nx r.2.nx) (runOpsD T self ops (Env.put env r.1 o.1.dst) r.2 (⟨s, Env.keep env o.2, r.1⟩ :: acc) K) (.bad 43)).all Q from h)
    have hc : Nat.ble s.nx s1.nx = true ∧ (runOpsD T self ops (Env.put env v o.1.dst) s1 (⟨s, Env.keep env o.2, v⟩ :: acc) K).all Q := by
      cases hb : Nat.ble s.nx s1.nx with
      | false => simp only [hb] at h2; exact h2.elim
      | true => simp only [hb] at h2; exact ⟨rfl, h2⟩
    obtain ⟨rs, env', s', S, E, V, ht, hk⟩ := runOpsD_trace ops _ _ _ K hc.2
    refine ⟨⟨s, Env.keep env o.2, v⟩ :: rs, env', s', fun i => match i with | 0 => s | i + 1 => S i, fun i => match i with | 0 => env | i + 1 => E i, fun i => match i with | 0 => v | i + 1 => V i,
      ⟨rfl, rfl, ht.sn, ht.en, by simp [ht.len], fun i u hi => ?_⟩, by simpa using hk⟩
    cases i with
    | zero =>
      simp at hi
      subst hi
      simp only [ht.s0, ht.e0]
      exact ⟨h1, ble_iff.1 hc.1, trivial, by simp⟩
    | succ i =>
      have := ht.step i u (by simpa using hi)
      simpa using this

/-! ### What is ahead of what -/
theorem orFold_spec (acc : Array Nat) : ∀ (l : List Edge) (s0 : Nat) (i : Nat), (l.foldl (fun s e => if Region.binds .any e then s ||| 2 ^ e.on ||| acc.getD e.on 0 else s) s0).testBit i = true →
    s0.testBit i = true ∨ ∃ e ∈ l, Region.binds .any e = true ∧ (e.on = i ∨ (acc.getD e.on 0).testBit i = true)
  | [], s0, i, h => .inl h
  | e :: l, s0, i, h => by
    simp only [List.foldl_cons] at h
    rcases orFold_spec acc l _ i h with h1 | ⟨e', h1, h2, h3⟩
    · by_cases hb : Region.binds .any e = true
      · rw [if_pos hb] at h1
        simp only [Nat.testBit_or, Bool.or_eq_true, Nat.testBit_two_pow] at h1
        rcases h1 with (h1 | h1) | h1
        · exact .inl h1
        · exact .inr ⟨e, by simp, hb, .inl (of_decide_eq_true h1)⟩
        · exact .inr ⟨e, by simp, hb, .inr h1⟩
      · rw [if_neg hb] at h1
        exact .inl h1
    · exact .inr ⟨e', by simp [h1], h2, h3⟩

theorem before_spec (ops : Array Oper) : ∀ (j : Nat) (o : Oper), ops[j]? = some o → ∀ i, ((ahead ops).getD j 0).testBit i = true → ∃ e ∈ o.after.toList, binds e = true ∧ (e.on = i ∨ ((ahead ops).getD e.on 0).testBit i = true) := by
  have key : (ahead ops).size = ops.size ∧ ∀ (j : Nat) (o : Oper), j < ops.size → ops[j]? = some o → ∀ i, ((ahead ops).getD j 0).testBit i = true → ∃ e ∈ o.after.toList, binds e = true ∧ (e.on = i ∨ ((ahead ops).getD e.on 0).testBit i = true) := by
    unfold ahead Region.before
    refine Array.foldl_induction (motive := fun k (acc : Array Nat) => acc.size = k ∧ ∀ (j : Nat) (o : Oper), j < k → ops[j]? = some o → ∀ i, (acc.getD j 0).testBit i = true → ∃ e ∈ o.after.toList, binds e = true ∧ (e.on = i ∨ (acc.getD e.on 0).testBit i = true)) ⟨rfl, fun j o h => by omega⟩ ?_
    rintro k acc ⟨hsz, hacc⟩
    refine ⟨by simp [hsz], fun j o hj ho i hbit => ?_⟩
    have grow : ∀ x e, (acc.getD e 0).testBit i = true → ((acc.push x).getD e 0).testBit i = true := by
      intro x e h
      by_cases he : e < acc.size
      · have : (acc.push x).getD e 0 = acc.getD e 0 := by
          simp only [Array.getD_eq_getD_getElem?, Array.getElem?_push, if_neg (show ¬ e = acc.size by omega)]
        rw [this]; exact h
      · rw [show acc.getD e 0 = 0 by simp only [Array.getD_eq_getD_getElem?, Array.getElem?_eq_none (Nat.le_of_not_lt he)]; rfl] at h
        simp at h
    by_cases e : j = k
    · subst e
      have hv : (ops[k] : Oper) = o := by
        have := ho
        rw [Array.getElem?_eq_getElem k.2] at this
        exact Option.some.inj this
      have hx : ∀ x, (acc.push x).getD k 0 = x := fun x => by rw [← hsz]; simp [Array.getD_eq_getD_getElem?]
      rw [hx] at hbit
      rw [← Array.foldl_toList] at hbit
      rcases orFold_spec acc _ _ i hbit with h1 | ⟨e', h1, h2, h3⟩
      · rw [Nat.zero_testBit] at h1; cases h1
      · refine ⟨e', by rw [← hv]; exact h1, h2, ?_⟩
        rcases h3 with h3 | h3
        · exact .inl h3
        · exact .inr (grow _ _ h3)
    · have hlt : j < k := by omega
      have : (acc.push (Array.foldl (fun s e => if Region.binds .any e = true then s ||| 2 ^ e.on ||| acc.getD e.on 0 else s) 0 ops[k].after)).getD j 0 = acc.getD j 0 := by
        simp only [Array.getD_eq_getD_getElem?, Array.getElem?_push, if_neg (show ¬ j = acc.size by omega)]
      rw [this] at hbit
      obtain ⟨e', h1, h2, h3⟩ := hacc j o hlt ho i hbit
      refine ⟨e', h1, h2, ?_⟩
      rcases h3 with h3 | h3
      · exact .inl h3
      · exact .inr (grow _ _ h3)
  intro j o ho i
  exact key.2 j o (by
    rcases Nat.lt_or_ge j ops.size with h | h
    · exact h
    · rw [Array.getElem?_eq_none h] at ho; simp at ho) ho i

/-! ### Slots -/
theorem keep_get : ∀ {ks : List Nat} {t : Nat} {v : Value}, (Env.keep env ks).get t = some v → t ∈ ks ∧ env.get t = some v
  | [], t, v, h => by simp [Env.keep] at h
  | k :: l, t, v, h => by
    unfold Env.keep at h
    cases hk : Tr.get env k with
    | none =>
      rw [hk] at h
      have := keep_get (ks := l) (t := t) (v := v) h
      exact ⟨by simp [this.1], this.2⟩
    | some u =>
      rw [hk] at h
      replace h : ((Env.keep env l).set k u).get t = some v := h
      rw [Tr.get_set] at h
      by_cases e : t = k
      · subst e
        rw [if_pos rfl] at h
        exact ⟨by simp, by rw [hk]; exact h⟩
      · rw [if_neg e] at h
        have := keep_get (ks := l) h
        exact ⟨by simp [this.1], this.2⟩

section
variable {l : List (IOper × List Nat)} {rs : List Rec} {env' : Env} {s' : IState} {S : Nat → IState} {E : Nat → Env} {V : Nat → Value}

theorem Trace.env_get (ht : Trace T self l env s rs env' s' S E V) : ∀ (i : Nat), i ≤ l.length → ∀ (t : Nat) (v : Value), (E i).get t = some v →
    (∃ j o, j < i ∧ l[j]? = some o ∧ o.1.dst = some t ∧ v = V j) ∨ ((∀ j o, j < i → l[j]? = some o → o.1.dst ≠ some t) ∧ env.get t = some v)
  | 0, _, t, v, h => by
    rw [ht.e0] at h
    exact .inr ⟨fun j o hj => by omega, h⟩
  | i + 1, hi, t, v, h => by
    obtain ⟨o, ho⟩ : ∃ o, l[i]? = some o := ⟨l[i]'(by omega), List.getElem?_eq_getElem _⟩
    have hE := (ht.step i o ho).2.2.1
    rw [hE] at h
    have back : (E i).get t = some v → o.1.dst ≠ some t → (∃ j o, j < i + 1 ∧ l[j]? = some o ∧ o.1.dst = some t ∧ v = V j) ∨ ((∀ j o, j < i + 1 → l[j]? = some o → o.1.dst ≠ some t) ∧ env.get t = some v) := fun h hne => by
      rcases ht.env_get i (by omega) t v h with ⟨j, u, h1, h2, h3, h4⟩ | ⟨h1, h2⟩
      · exact Or.inl ⟨j, u, Nat.lt_succ_of_lt h1, h2, h3, h4⟩
      · refine Or.inr ⟨fun j u hj hu => ?_, h2⟩
        by_cases e : j = i
        · subst e
          obtain rfl := Option.some.inj (hu.symm.trans ho)
          exact hne
        · exact h1 j u (by omega) hu
    cases hd : o.1.dst with
    | none =>
      rw [hd] at h
      exact back h (by rw [hd]; simp)
    | some d =>
      rw [hd] at h
      replace h : (Tr.set (E i) d (V i)).get t = some v := h
      rw [Tr.get_set] at h
      by_cases e : t = d
      · subst e
        rw [if_pos rfl] at h
        exact .inl ⟨i, o, by omega, ho, hd, (Option.some.inj h).symm⟩
      · rw [if_neg e] at h
        exact back h (by rw [hd]; simpa using Ne.symm e)

/-! ### What the operations do to the ideal memory -/
theorem stepO_cases {io : IOper} {v : Value} {s1 : IState} (h : stepO T self env s io = .ok (v, s1)) : (want env io.guard = some false ∧ v = undefV ∧ s1 = s) ∨ (want env io.guard = some true ∧ stepOp T self env s io.op = .ok (v, s1)) := by
  unfold stepO at h
  cases hw : want env io.guard with
  | none => rw [hw] at h; replace h : R.bad 24 = R.ok (v, s1) := h; cases h
  | some t =>
    rw [hw] at h
    cases t with
    | true => exact .inr ⟨rfl, h⟩
    | false =>
      have h : R.ok (undefV, s) = R.ok (v, s1) := h
      simp only [R.ok.injEq, Prod.mk.injEq] at h
      exact .inl ⟨rfl, h.1.symm, h.2.symm⟩
theorem obR_ok {α β : Type} {k : Nat} {x : Option α} {f : α → R β} {b : β} (h : obR k x f = .ok b) : ∃ y, x = some y ∧ f y = .ok b := by
  cases x with
  | none => replace h : R.bad k = R.ok b := h; cases h
  | some y => exact ⟨y, rfl, h⟩
theorem stepOp_p {o : POp} {v : Value} {s1 : IState} (h : stepOp T self env s (.p o) = .ok (v, s1)) : iPure T env o = some v ∧ s1 = s := by
  obtain ⟨y, h1, h2⟩ := obR_ok (show obR 21 (iPure T env o) (okS s) = .ok (v, s1) from h)
  simp only [okS, R.ok.injEq, Prod.mk.injEq] at h2
  exact ⟨by rw [h1, h2.1], h2.2.symm⟩
theorem stepOp_r {o : ROp} {v : Value} {s1 : IState} (h : stepOp T self env s (.r o) = .ok (v, s1)) : iRead env s o = some v ∧ s1 = s := by
  obtain ⟨y, h1, h2⟩ := obR_ok (show obR 22 (iRead env s o) (okS s) = .ok (v, s1) from h)
  simp only [okS, R.ok.injEq, Prod.mk.injEq] at h2
  exact ⟨by rw [h1, h2.1], h2.2.symm⟩
theorem stepOp_a {o : AOp} {v : Value} {s1 : IState} (h : stepOp T self env s (.a o) = .ok (v, s1)) : ∃ ob f, iAlloc env o = some (ob, f) ∧ v = f s.nx ∧ s1 = s.new ob := by
  obtain ⟨⟨ob', f⟩, h1, h2⟩ := obR_ok (show obR 23 (iAlloc env o) (fun r => .ok (r.2 s.nx, s.new r.1)) = .ok (v, s1) from h)
  simp only [R.ok.injEq, Prod.mk.injEq] at h2
  exact ⟨ob', f, h1, h2.1.symm, h2.2.symm⟩
theorem stepO_keeps {io : IOper} {v : Value} {s1 : IState} (h : stepO T self env s io = .ok (v, s1)) (hw : isWr io.op = false) : ∀ b, b < s.nx → s1.get b = s.get b := by
  intro b hb
  rcases stepO_cases h with ⟨_, _, rfl⟩ | ⟨_, h⟩
  · rfl
  · cases hop : io.op with
    | p o => rw [hop] at h; rw [(stepOp_p h).2]
    | r o => rw [hop] at h; rw [(stepOp_r h).2]
    | a o =>
      rw [hop] at h
      obtain ⟨ob, f, _, _, rfl⟩ := stepOp_a h
      rw [IState.get_new, if_neg (by omega)]
    | w o => rw [hop] at hw; simp [isWr] at hw

theorem Trace.nx_mono (ht : Trace T self l env s rs env' s' S E V) : ∀ {i j : Nat}, i ≤ j → j ≤ l.length → (S i).nx ≤ (S j).nx := by
  intro i j hij hj
  induction j with
  | zero => have : i = 0 := by omega
            subst this; exact Nat.le_refl _
  | succ j ih =>
    by_cases e : i = j + 1
    · subst e; exact Nat.le_refl _
    · obtain ⟨o, ho⟩ : ∃ o, l[j]? = some o := ⟨l[j]'(by omega), List.getElem?_eq_getElem _⟩
      exact Nat.le_trans (ih (by omega) (by omega)) (ht.step j o ho).2.1
/-- Where there is no writer between, the older blocks are what they were. -/
theorem Trace.keeps (ht : Trace T self l env s rs env' s' S E V) {j : Nat} : ∀ {k : Nat}, j ≤ k → k ≤ l.length → (∀ i o, j ≤ i → i < k → l[i]? = some o → isWr o.1.op = false) → ∀ b, b < (S j).nx → (S k).get b = (S j).get b := by
  intro k hjk hk hno b hb
  induction k with
  | zero => have : j = 0 := by omega
            subst this; rfl
  | succ k ih =>
    by_cases e : j = k + 1
    · subst e; rfl
    · obtain ⟨o, ho⟩ : ∃ o, l[k]? = some o := ⟨l[k]'(by omega), List.getElem?_eq_getElem _⟩
      rw [stepO_keeps (ht.step k o ho).1 (hno k o (by omega) (by omega) ho) b (Nat.lt_of_lt_of_le hb (ht.nx_mono (by omega) (by omega)))]
      exact ih (by omega) (by omega) fun i u h1 h2 h3 => hno i u h1 (by omega) h3
end
end
end Go.Im

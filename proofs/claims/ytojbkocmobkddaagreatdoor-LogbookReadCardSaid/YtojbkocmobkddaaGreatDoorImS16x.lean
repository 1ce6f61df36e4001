/- The ideal machine: regions that draw their order. -/
import Derived.Test.YtojbkocmobkddaaGreatDoorImS15
set_option linter.all false
namespace Go.Im
theorem lM {a b : List UInt8} (h : eqL a b = true) : a = b := by rw [Jh] at h; exact of_decide_eq_true h
theorem lN {a b : ByteArray} (h : toL a = toL b) : a = b := by rw [← JB a, ← JB b, h]
theorem U1 : ∀ {a b : Value}, veqS a b = true → a = b := by
 intro a b h
 unfold veqS at h
 split at h
 · simpa using h
 · simp only [Bool.and_eq_true, YK, JA, decide_eq_true_eq] at h
   rw [h.1, h.2]
 · rw [lN (lM h)]
 · rfl
 · simp only [Bool.and_eq_true] at h
   rw [beq_iff.1 h.1, beq_iff.1 h.2]
 · simp only [Bool.and_eq_true] at h
   rw [beq_iff.1 h.1, beq_iff.1 h.2]
 · simp only [Bool.and_eq_true] at h
   rw [beq_iff.1 h.1.1.1, beq_iff.1 h.1.1.2, beq_iff.1 h.1.2, beq_iff.1 h.2]
 · rfl
 · rw [beq_iff.1 h]
 · rfl
 · rfl
 · simp at h
theorem YQ : ∀ {a b : List Value}, Ih a b = true → a = b
 | [], [], _ => rfl
 | x :: l, y :: l', h => by
  simp only [Ih, Bool.and_eq_true] at h
  rw [U1 h.1, YQ h.2]
 | [], _ :: _, h => by simp [Ih] at h
 | _ :: _, [], h => by simp [Ih] at h
theorem U2 {a b : Array Value} (h : Ih a.toList b.toList = true) : a = b := Array.ext' (YQ h)
theorem veq_eq : ∀ {a b : Value}, veq a b = true → a = b := by
 intro a b h
 unfold veq at h
 split at h
 · simp only [Bool.and_eq_true] at h
   rw [beq_iff.1 h.1, U1 h.2]
 · rw [U2 h]
 · rw [U2 h]
 · simp only [Bool.and_eq_true] at h
   rw [beq_iff.1 h.1.1, U2 h.1.2, U2 h.2]
 · exact U1 h
section
variable {X : Cx} {T : MT} {self : Self} {m : Map} {s : AA} {w : World} {env : Env} {a : Act} {F : Fence} {inR : Bool} {n : Nat}
structure Trace (T : MT) (sf : Self) (ops : List (D5 × List Nat)) (env : Env) (s : AA) (rs : List Rec) (env' : Env) (s' : AA) (S : Nat → AA) (E : Nat → Env) (V : Nat → Value) : Prop where
 s0 : S 0 = s
 e0 : E 0 = env
 sn : S ops.length = s'
 en : E ops.length = env'
 len : rs.length = ops.length
 step : ∀ i o, ops[i]? = some o → KR T sf (Env.keep (E i) o.2) (S i) o.1 = .ok (V i, S (i + 1)) ∧ (S i).nx ≤ (S (i + 1)).nx ∧ E (i + 1) = Env.put (E i) (V i) o.1.dst ∧ rs[i]? = some ⟨S i, Env.keep (E i) o.2, V i⟩
theorem WY {α β : Type} {x : R α} {f : α → R β} {Q : β → Prop} (h : (AO x f).all Q) : ∃ a, x = .ok a ∧ (f a).all Q := by
 cases x with
 | ok a => exact ⟨a, rfl, h⟩
 | bad n => exact h.elim
 | ch n k => exact h.elim
theorem KY {β : Type} {Q : β → Prop} : ∀ (ops : List (D5 × List Nat)) (env : Env) (s : AA) (acc : List Rec) (K : Env → AA → List Rec → R β), (OZ T self ops env s acc K).all Q →
 ∃ rs env' s' S E V, Trace T self ops env s rs env' s' S E V ∧ (K env' s' (rs.reverse ++ acc)).all Q
 | [], env, s, acc, K, h => ⟨[], env, s, fun _ => s, fun _ => env, fun _ => Bl, ⟨rfl, rfl, rfl, rfl, rfl, fun i o h => by simp at h⟩, h⟩
 | o :: ops, env, s, acc, K, h => by
  obtain ⟨⟨v, s1⟩, h1, h2⟩ := WY (show (AO (KR T self (Env.keep env o.2) s o.1) fun r => cond (Nat.ble s.nx r.2.nx) (OZ T self ops (Env.put env r.1 o.1.dst) r.2 (⟨s, Env.keep env o.2, r.1⟩ :: acc) K) (.bad 43)).all Q from h)
  have hc : Nat.ble s.nx s1.nx = true ∧ (OZ T self ops (Env.put env v o.1.dst) s1 (⟨s, Env.keep env o.2, v⟩ :: acc) K).all Q := by
   cases hb : Nat.ble s.nx s1.nx with
   | false => simp only [hb] at h2; exact h2.elim
   | true => simp only [hb] at h2; exact ⟨rfl, h2⟩
  obtain ⟨rs, env', s', S, E, V, ht, hk⟩ := KY ops _ _ _ K hc.2
  refine ⟨⟨s, Env.keep env o.2, v⟩ :: rs, env', s', fun i => match i with | 0 => s | i + 1 => S i, fun i => match i with | 0 => env | i + 1 => E i, fun i => match i with | 0 => v | i + 1 => V i,
   ⟨rfl, rfl, ht.sn, ht.en, by simp [ht.len], fun i u hi => ?_⟩, by simpa using hk⟩
  cases i with
  | zero =>
   simp at hi
   subst hi
   simp only [ht.s0, ht.e0]
   exact ⟨h1, Ae.1 hc.1, trivial, by simp⟩
  | succ i =>
   have := ht.step i u (by simpa using hi)
   simpa using this
theorem O5 (acc : Array Nat) : ∀ (l : List Edge) (s0 : Nat) (i : Nat), (l.foldl (fun s e => if Region.binds .any e then s ||| 2 ^ e.on ||| acc.getD e.on 0 else s) s0).testBit i = true →
 s0.testBit i = true ∨ ∃ e ∈ l, Region.binds .any e = true ∧ (e.on = i ∨ (acc.getD e.on 0).testBit i = true)
 | [], s0, i, h => .inl h
 | e :: l, s0, i, h => by
  simp only [List.foldl_cons] at h
  rcases O5 acc l _ i h with h1 | ⟨e', h1, h2, h3⟩
  · by_cases hb : Region.binds .any e = true
    · rw [if_pos hb] at h1
      simp only [Nat.testBit_or, Bool.or_eq_true, Nat.testBit_two_pow] at h1
      rcases h1 with (h1 | h1) | h1
      · exact .inl h1
      · exact .inr ⟨e, by simp, hb, .inl (of_decide_eq_true h1)⟩
      · exact .inr ⟨e, by simp, hb, .inr h1⟩
    · rw [if_neg hb] at h1
      exact .inl h1
  · exact .inr ⟨e', by simp [h1], h2, h3⟩
theorem VK (ops : Array Oper) : ∀ (j : Nat) (o : Oper), ops[j]? = some o → ∀ i, ((ahead ops).getD j 0).testBit i = true → ∃ e ∈ o.after.toList, binds e = true ∧ (e.on = i ∨ ((ahead ops).getD e.on 0).testBit i = true) := by
 have key : (ahead ops).size = ops.size ∧ ∀ (j : Nat) (o : Oper), j < ops.size → ops[j]? = some o → ∀ i, ((ahead ops).getD j 0).testBit i = true → ∃ e ∈ o.after.toList, binds e = true ∧ (e.on = i ∨ ((ahead ops).getD e.on 0).testBit i = true) := by
  unfold ahead Region.before
  refine Array.foldl_induction (motive := fun k (acc : Array Nat) => acc.size = k ∧ ∀ (j : Nat) (o : Oper), j < k → ops[j]? = some o → ∀ i, (acc.getD j 0).testBit i = true → ∃ e ∈ o.after.toList, binds e = true ∧ (e.on = i ∨ (acc.getD e.on 0).testBit i = true)) ⟨rfl, fun j o h => by omega⟩ ?_
  rintro k acc ⟨hsz, hacc⟩
  refine ⟨by simp [hsz], fun j o hj ho i hbit => ?_⟩
  have grow : ∀ x e, (acc.getD e 0).testBit i = true → ((acc.push x).getD e 0).testBit i = true := by
   intro x e h
   by_cases he : e < acc.size
   · have : (acc.push x).getD e 0 = acc.getD e 0 := by
      simp only [Array.getD_eq_getD_getElem?, Array.getElem?_push, if_neg (show ¬ e = acc.size by omega)]
     rw [this]; exact h
   · rw [show acc.getD e 0 = 0 by simp only [Array.getD_eq_getD_getElem?, Array.getElem?_eq_none (Nat.le_of_not_lt he)]; rfl] at h
     simp at h
  by_cases e : j = k
  · subst e
    have hv : (ops[k] : Oper) = o := by
     have := ho
     rw [Array.getElem?_eq_getElem k.2] at this
     exact Option.some.inj this
    have hx : ∀ x, (acc.push x).getD k 0 = x := fun x => by rw [← hsz]; simp [Array.getD_eq_getD_getElem?]
    rw [hx] at hbit
    rw [← Array.foldl_toList] at hbit
    rcases O5 acc _ _ i hbit with h1 | ⟨e', h1, h2, h3⟩
    · rw [Nat.zero_testBit] at h1; cases h1
    · refine ⟨e', by rw [← hv]; exact h1, h2, ?_⟩
      rcases h3 with h3 | h3
      · exact .inl h3
      · exact .inr (grow _ _ h3)
  · have hlt : j < k := by omega
    have : (acc.push (Array.foldl (fun s e => if Region.binds .any e = true then s ||| 2 ^ e.on ||| acc.getD e.on 0 else s) 0 ops[k].after)).getD j 0 = acc.getD j 0 := by
     simp only [Array.getD_eq_getD_getElem?, Array.getElem?_push, if_neg (show ¬ j = acc.size by omega)]
    rw [this] at hbit
    obtain ⟨e', h1, h2, h3⟩ := hacc j o hlt ho i hbit
    refine ⟨e', h1, h2, ?_⟩
    rcases h3 with h3 | h3
    · exact .inl h3
    · exact .inr (grow _ _ h3)
 intro j o ho i
 exact key.2 j o (by
  rcases Nat.lt_or_ge j ops.size with h | h
  · exact h
  · rw [Array.getElem?_eq_none h] at ho; simp at ho) ho i
theorem PK : ∀ {ks : List Nat} {t : Nat} {v : Value}, (Env.keep env ks).get t = some v → t ∈ ks ∧ env.get t = some v
 | [], t, v, h => by simp [Env.keep] at h
 | k :: l, t, v, h => by
  unfold Env.keep at h
  cases hk : Tr.get env k with
  | none =>
   rw [hk] at h
   have := PK (ks := l) (t := t) (v := v) h
   exact ⟨by simp [this.1], this.2⟩
  | some u =>
   rw [hk] at h
   replace h : ((Env.keep env l).set k u).get t = some v := h
   rw [Tr.get_set] at h
   by_cases e : t = k
   · subst e
     rw [if_pos rfl] at h
     exact ⟨by simp, by rw [hk]; exact h⟩
   · rw [if_neg e] at h
     have := PK (ks := l) h
     exact ⟨by simp [this.1], this.2⟩
section
variable {l : List (D5 × List Nat)} {rs : List Rec} {env' : Env} {s' : AA} {S : Nat → AA} {E : Nat → Env} {V : Nat → Value}
theorem Trace.env_get (ht : Trace T self l env s rs env' s' S E V) : ∀ (i : Nat), i ≤ l.length → ∀ (t : Nat) (v : Value), (E i).get t = some v →
 (∃ j o, j < i ∧ l[j]? = some o ∧ o.1.dst = some t ∧ v = V j) ∨ ((∀ j o, j < i → l[j]? = some o → o.1.dst ≠ some t) ∧ env.get t = some v)
 | 0, _, t, v, h => by
  rw [ht.e0] at h
  exact .inr ⟨fun j o hj => by omega, h⟩
 | i + 1, hi, t, v, h => by
  obtain ⟨o, ho⟩ : ∃ o, l[i]? = some o := ⟨l[i]'(by omega), List.getElem?_eq_getElem _⟩
  have hE := (ht.step i o ho).2.2.1
  rw [hE] at h
  have back : (E i).get t = some v → o.1.dst ≠ some t → (∃ j o, j < i + 1 ∧ l[j]? = some o ∧ o.1.dst = some t ∧ v = V j) ∨ ((∀ j o, j < i + 1 → l[j]? = some o → o.1.dst ≠ some t) ∧ env.get t = some v) := fun h hne => by
   rcases ht.env_get i (by omega) t v h with ⟨j, u, h1, h2, h3, h4⟩ | ⟨h1, h2⟩
   · exact Or.inl ⟨j, u, Nat.lt_succ_of_lt h1, h2, h3, h4⟩
   · refine Or.inr ⟨fun j u hj hu => ?_, h2⟩
     by_cases e : j = i
     · subst e
       obtain rfl := Option.some.inj (hu.symm.trans ho)
       exact hne
     · exact h1 j u (by omega) hu
  cases hd : o.1.dst with
  | none =>
   rw [hd] at h
   exact back h (by rw [hd]; simp)
  | some d =>
   rw [hd] at h
   replace h : (Tr.set (E i) d (V i)).get t = some v := h
   rw [Tr.get_set] at h
   by_cases e : t = d
   · subst e
     rw [if_pos rfl] at h
     exact .inl ⟨i, o, by omega, ho, hd, (Option.some.inj h).symm⟩
   · rw [if_neg e] at h
     exact back h (by rw [hd]; simpa using Ne.symm e)
theorem Hy {io : D5} {v : Value} {s1 : AA} (h : KR T self env s io = .ok (v, s1)) : (want env io.guard = some false ∧ v = Bl ∧ s1 = s) ∨ (want env io.guard = some true ∧ NG T self env s io.op = .ok (v, s1)) := by
 unfold KR at h
 cases hw : want env io.guard with
 | none => rw [hw] at h; replace h : R.bad 24 = R.ok (v, s1) := h; cases h
 | some t =>
  rw [hw] at h
  cases t with
  | true => exact .inr ⟨rfl, h⟩
  | false =>
   have h : R.ok (Bl, s) = R.ok (v, s1) := h
   simp only [R.ok.injEq, Prod.mk.injEq] at h
   exact .inl ⟨rfl, h.1.symm, h.2.symm⟩
theorem WZ {α β : Type} {k : Nat} {x : Option α} {f : α → R β} {b : β} (h : obR k x f = .ok b) : ∃ y, x = some y ∧ f y = .ok b := by
 cases x with
 | none => replace h : R.bad k = R.ok b := h; cases h
 | some y => exact ⟨y, rfl, h⟩
theorem VL {o : POp} {v : Value} {s1 : AA} (h : NG T self env s (.p o) = .ok (v, s1)) : RG T env o = some v ∧ s1 = s := by
 obtain ⟨y, h1, h2⟩ := WZ (show obR 21 (RG T env o) (okS s) = .ok (v, s1) from h)
 simp only [okS, R.ok.injEq, Prod.mk.injEq] at h2
 exact ⟨by rw [h1, h2.1], h2.2.symm⟩
theorem VN {o : ROp} {v : Value} {s1 : AA} (h : NG T self env s (.r o) = .ok (v, s1)) : JR env s o = some v ∧ s1 = s := by
 obtain ⟨y, h1, h2⟩ := WZ (show obR 22 (JR env s o) (okS s) = .ok (v, s1) from h)
 simp only [okS, R.ok.injEq, Prod.mk.injEq] at h2
 exact ⟨by rw [h1, h2.1], h2.2.symm⟩
theorem VO {o : AOp} {v : Value} {s1 : AA} (h : NG T self env s (.a o) = .ok (v, s1)) : ∃ ob f, Oo env o = some (ob, f) ∧ v = f s.nx ∧ s1 = s.new ob := by
 obtain ⟨⟨ob', f⟩, h1, h2⟩ := WZ (show obR 23 (Oo env o) (fun r => .ok (r.2 s.nx, s.new r.1)) = .ok (v, s1) from h)
 simp only [R.ok.injEq, Prod.mk.injEq] at h2
 exact ⟨ob', f, h1, h2.1.symm, h2.2.symm⟩
theorem VP {io : D5} {v : Value} {s1 : AA} (h : KR T self env s io = .ok (v, s1)) (hw : Ee io.op = false) : ∀ b, b < s.nx → s1.get b = s.get b := by
 intro b hb
 rcases Hy h with ⟨_, _, rfl⟩ | ⟨_, h⟩
 · rfl
 · cases hop : io.op with
   | p o => rw [hop] at h; rw [(VL h).2]
   | r o => rw [hop] at h; rw [(VN h).2]
   | a o =>
    rw [hop] at h
    obtain ⟨ob, f, _, _, rfl⟩ := VO h
    rw [AA.Ak, if_neg (by omega)]
   | w o => rw [hop] at hw; simp [Ee] at hw
theorem Trace.nx_mono (ht : Trace T self l env s rs env' s' S E V) : ∀ {i j : Nat}, i ≤ j → j ≤ l.length → (S i).nx ≤ (S j).nx := by
 intro i j hij hj
 induction j with
 | zero => have : i = 0 := by omega
           subst this; exact Nat.le_refl _
 | succ j ih =>
  by_cases e : i = j + 1
  · subst e; exact Nat.le_refl _
  · obtain ⟨o, ho⟩ : ∃ o, l[j]? = some o := ⟨l[j]'(by omega), List.getElem?_eq_getElem _⟩
    exact Nat.le_trans (ih (by omega) (by omega)) (ht.step j o ho).2.1
theorem Trace.keeps (ht : Trace T self l env s rs env' s' S E V) {j : Nat} : ∀ {k : Nat}, j ≤ k → k ≤ l.length → (∀ i o, j ≤ i → i < k → l[i]? = some o → Ee o.1.op = false) → ∀ b, b < (S j).nx → (S k).get b = (S j).get b := by
 intro k hjk hk hno b hb
 induction k with
 | zero => have : j = 0 := by omega
           subst this; rfl
 | succ k ih =>
  by_cases e : j = k + 1
  · subst e; rfl
  · obtain ⟨o, ho⟩ : ∃ o, l[k]? = some o := ⟨l[k]'(by omega), List.getElem?_eq_getElem _⟩
    rw [VP (ht.step k o ho).1 (hno k o (by omega) (by omega) ho) b (Nat.lt_of_lt_of_le hb (ht.nx_mono (by omega) (by omega)))]
    exact ih (by omega) (by omega) fun i u h1 h2 h3 => hno i u h1 (by omega) h3
end
end
end Go.Im
namespace Go.Im
def Map.to (m : Map) (k : Nat) : Map := fun b => if b < k then m b else none
theorem Map.to_some {m : Map} {k b : Nat} {p : Place} (h : (m.to k) b = some p) : m b = some p ∧ b < k := by
 unfold Map.to at h
 split at h
 · next hb => exact ⟨h, hb⟩
 · simp at h
theorem Map.to_of {m : Map} {k b : Nat} {p : Place} (h : m b = some p) (hb : b < k) : (m.to k) b = some p := by
 unfold Map.to; rw [if_pos hb]; exact h
theorem Map.to_mono {m m' : Map} {k k' : Nat} (h : m.le m') (hk : k ≤ k') : (m.to k).le (m'.to k') := fun b p hb => by
 obtain ⟨h1, h2⟩ := Map.to_some hb
 exact Map.to_of (h b p h1) (by omega)
section
variable {X : Cx} {T : MT} {self : Self} {env : Env} {s : AA} {l : List (D5 × List Nat)} {rs : List Rec} {env' : Env} {s' : AA} {S : Nat → AA} {E : Nat → Env} {V : Nat → Value}
structure Inv (X : Cx) (l : List (D5 × List Nat)) (S : Nat → AA) (V : Nat → Value) (m0 : Map) (w0 : World) (a0 : Act) (done : Nat → Prop) (J : Nat) (m : Map) (a : Act) (w : World) : Prop where
 jle : J ≤ l.length
 wr : ∀ i o, l[i]? = some o → Ee o.1.op = true → (done i ↔ i < J)
 jl : J = 0 ∨ ∃ o, l[J - 1]? = some o ∧ Ee o.1.op = true
 own : ∀ b p, m b = some p → b < (S 0).nx ∨ ∃ i, done i ∧ i < l.length ∧ (S i).nx ≤ b ∧ b < (S (i + 1)).nx
 objJ : ∀ b p o, m b = some p → b < (S J).nx → (S J).get b = some o → ∃ o', w.heap[p.blk]? = some o' ∧ Gt X (m.to (S J).nx) p o o'
 objA : ∀ b p i o, m b = some p → J ≤ i → i < l.length → (S i).nx ≤ b → b < (S (i + 1)).nx → (S (i + 1)).get b = some o → ∃ o', w.heap[p.blk]? = some o' ∧ Gt X (m.to (S (i + 1)).nx) p o o'
 inj : ∀ b b' p p' o o', m b = some p → m b' = some p' → b < (S J).nx → b' < (S J).nx → (S J).get b = some o → (S J).get b' = some o' → o.turns = true → o' ≠ .dead → p.blk = p'.blk → b = b'
 lone : ∀ b p b' p', m b = some p → (S J).nx ≤ b → m b' = some p' → b' ≠ b → p'.blk ≠ p.blk
 rng : ∀ b p, m b = some p → p.blk < w.heap.size
 glob : OY X.G m
 slots : ∀ i o d, l[i]? = some o → o.1.dst = some d → done i → ∃ v', a.tmps[d]? = some v' ∧ BH (m.to (S (max (i + 1) J)).nx) (V i) v'
 rest : ∀ t : Nat, (∀ i o, l[i]? = some o → o.1.dst = some t → ¬ done i) → a.tmps[t]? = a0.tmps[t]?
 sz : a.tmps.size = a0.tmps.size
 defers : a.defers = a0.defers
 le : m0.le m
 size : w0.heap.size ≤ w.heap.size
 os : w.os = w0.os
 tape : w.tape = w0.tape
 output : w.output = w0.output
 frame : ∀ k, k < w0.heap.size → ¬ Turned m0 (S 0) k → w.heap[k]? = w0.heap[k]?
 Rf : ∀ b p o, m b = some p → b < (S J).nx → (S J).get b = some o → o.turns = true → p.blk < w0.heap.size → Turned m0 (S 0) p.blk
 Wh : ∀ b p, m b = some p → (S J).nx ≤ b → w0.heap.size ≤ p.blk
 J8 : ∀ b p, m b = some p → p.blk < w0.heap.size → ∃ b0 p0, m0 b0 = some p0 ∧ p0.blk = p.blk
 KP : ∀ b p, m b = some p → b < (S 0).nx → m0 b = some p
variable {m0 : Map} {w0 : World} {a0 : Act}
theorem Inv.start (ht : Trace T self l env s rs env' s' S E V) (hR : Rl X m0 (S 0) w0) : Inv X l S V m0 w0 a0 (fun _ => False) 0 m0 a0 w0 where
 jle := Nat.zero_le _
 wr := fun i o _ _ => ⟨fun h => h.elim, fun h => by omega⟩
 jl := .inl rfl
 own := fun b p h => .inl (hR.rng b p h).2
 objJ := fun b p o hb hlt ho => by
  obtain ⟨o', h1, h2⟩ := hR.obj b p o hb ho
  exact ⟨o', h1, h2.mono fun b p h => Map.to_of h (hR.rng b p h).2⟩
 objA := fun b p i o hb _ hil hi _ _ => by
  have h1 := ht.nx_mono (Nat.zero_le i) (Nat.le_of_lt hil)
  have h2 := (hR.rng b p hb).2
  omega
 inj := fun b b' p p' o o' h1 h2 _ _ h3 h4 h5 h6 h7 => hR.inj b b' p p' o o' h1 h2 h3 h4 h5 h6 h7
 lone := fun b p b' p' hb hlt _ _ => by have := (hR.rng b p hb).2; omega
 rng := fun b p hb => (hR.rng b p hb).1
 glob := hR.glob
 slots := fun i o d _ _ h => h.elim
 rest := fun _ _ => rfl
 sz := rfl
 defers := rfl
 le := m0.le_refl
 size := Nat.le_refl _
 os := rfl
 tape := rfl
 output := rfl
 frame := fun _ _ _ => rfl
 Rf := fun b p o hb _ ho ht _ => ⟨b, p, o, hb, ho, ht, rfl⟩
 Wh := fun b p hb hlt => by have := (hR.rng b p hb).2; omega
 J8 := fun b p hb _ => ⟨b, p, hb, rfl⟩
 KP := fun b p hb _ => hb
theorem Inv.fixTo (ht : Trace T self l env s rs env' s' S E V) {done : Nat → Prop} {J : Nat} {m : Map} {a : Act} {w : World} (h : Inv X l S V m0 w0 a0 done J m a w) (hR0 : Rl X m0 (S 0) w0) (i : Nat) : Fix X (m.to (S i).nx) w := by
 refine hR0.fix.frame (fun x hx => h.frame _ (hR0.fix.lt hx) ?_) ?_
 · rintro ⟨b, p, o, hb, _, _, e⟩
   exact (hR0.fix x hx).2 b p hb e
 · intro b p hb
   rcases Nat.lt_or_ge p.blk w0.heap.size with g | g
   · exact .inl (h.J8 b p (Map.to_some hb).1 g)
   · exact .inr g
theorem Inv.at (ht : Trace T self l env s rs env' s' S E V) {done : Nat → Prop} {J : Nat} {m : Map} {a : Act} {w : World} (h : Inv X l S V m0 w0 a0 done J m a w) (hdl : ∀ i, done i → i < l.length) {k : Nat} (hJk : J ≤ k) (hk : k ≤ l.length)
 (hno : ∀ i o, J ≤ i → i < k → l[i]? = some o → Ee o.1.op = false) (hR0 : Rl X m0 (S 0) w0) : Rl X (m.to (S k).nx) (S k) w := by
 have hJn := ht.nx_mono hJk hk
 have cur : ∀ b p o, m b = some p → b < (S k).nx → (S k).get b = some o → (b < (S J).nx ∧ (S J).get b = some o) ∨ (∃ i, J ≤ i ∧ i < k ∧ (S i).nx ≤ b ∧ b < (S (i + 1)).nx ∧ (S (i + 1)).get b = some o) := by
  intro b p o hb hlt ho
  by_cases e : b < (S J).nx
  · exact .inl ⟨e, by rw [← ht.keeps hJk hk hno b e]; exact ho⟩
  · right
    rcases h.own b p hb with h1 | ⟨i, h1, h2, h3, h4⟩
    · have := ht.nx_mono (Nat.zero_le J) h.jle
      omega
    · have hiJ : J ≤ i := by
       rcases Nat.lt_or_ge i J with g | g
       · have := ht.nx_mono (show i + 1 ≤ J by omega) h.jle
         omega
       · exact g
      have hik : i < k := by
       rcases Nat.lt_or_ge i k with g | g
       · exact g
       · have := ht.nx_mono g (by omega)
         omega
      refine ⟨i, hiJ, hik, h3, h4, ?_⟩
      rw [← ht.keeps (j := i + 1) (k := k) (by omega) hk (fun i' o' h5 h6 h7 => hno i' o' (by omega) h6 h7) b h4]
      exact ho
 refine ⟨?_, ?_, ?_, ?_, h.fixTo ht hR0 k⟩
 · intro b p o hb ho
   obtain ⟨hb, hlt⟩ := Map.to_some hb
   rcases cur b p o hb hlt ho with ⟨h1, h2⟩ | ⟨i, h1, h2, h3, h4, h5⟩
   · obtain ⟨o', g1, g2⟩ := h.objJ b p o hb h1 h2
     exact ⟨o', g1, g2.mono (Map.to_mono m.le_refl hJn)⟩
   · obtain ⟨o', g1, g2⟩ := h.objA b p i o hb h1 (by omega) h3 h4 h5
     exact ⟨o', g1, g2.mono (Map.to_mono m.le_refl (ht.nx_mono (by omega) hk))⟩
 · intro b p hb
   obtain ⟨hb, hlt⟩ := Map.to_some hb
   exact ⟨h.rng b p hb, hlt⟩
 · intro b b' p p' o o' hb hb' ho ho' hd hd' he
   obtain ⟨hb, hlt⟩ := Map.to_some hb
   obtain ⟨hb', hlt'⟩ := Map.to_some hb'
   by_cases e : b = b'
   · exact e
   · rcases cur b p o hb hlt ho with ⟨h1, h2⟩ | ⟨i, h1, h2, h3, _⟩
     · rcases cur b' p' o' hb' hlt' ho' with ⟨h1', h2'⟩ | ⟨i', h1', h2', h3', _⟩
       · exact h.inj b b' p p' o o' hb hb' h1 h1' h2 h2' hd hd' he
       · exact absurd he (h.lone b' p' b p hb' (Nat.le_trans (ht.nx_mono h1' (by omega)) h3') hb e)
     · exact absurd he.symm (h.lone b p b' p' hb (Nat.le_trans (ht.nx_mono h1 (by omega)) h3) hb' (Ne.symm e))
 · intro g hg
   obtain ⟨p, h1, h2⟩ := hR0.glob g hg
   have hlt := (hR0.rng g p h1).2
   exact ⟨p, Map.to_of (h.le g p h1) (Nat.lt_of_lt_of_le hlt (ht.nx_mono (Nat.zero_le k) hk)), h2⟩
theorem Inv.envAt (ht : Trace T self l env s rs env' s' S E V) {done : Nat → Prop} {J : Nat} {m : Map} {a : Act} {w : World} (h : Inv X l S V m0 w0 a0 done J m a w) (hE : CB m0 env a0.tmps) (hR0 : Rl X m0 (S 0) w0) {i : Nat} {o : D5 × List Nat} (hi : l[i]? = some o) (hnd : ¬ done i)
 (hap : ∀ j u d, l[j]? = some u → j ≠ i → u.1.dst = some d → d ∈ o.2 → (j < i → done j) ∧ (i < j → ¬ done j)) : CB (m.to (S (max i J)).nx) (Env.keep (E i) o.2) a.tmps := by
 have hJl := h.jle
 have hil : i < l.length := (List.getElem?_eq_some_iff.1 hi).1
 intro t v hv
 obtain ⟨hk, hv⟩ := PK hv
 rcases ht.env_get i (Nat.le_of_lt hil) t v hv with ⟨j, u, h1, h2, h3, rfl⟩ | ⟨h1, h2⟩
 · obtain ⟨v', g1, g2⟩ := h.slots j u t h2 h3 ((hap j u t h2 (by omega) h3 hk).1 h1)
   exact ⟨v', g1, g2.mono (Map.to_mono m.le_refl (ht.nx_mono (by omega) (by omega)))⟩
 · obtain ⟨v', g1, g2⟩ := hE t v h2
   refine ⟨v', ?_, g2.mono ?_⟩
   · rw [h.rest t fun j u hj hd hdone => ?_]
     · exact g1
     · rcases Nat.lt_trichotomy j i with g | g | g
       · exact h1 j u g hj hd
       · subst g; exact hnd hdone
       · exact (hap j u t hj (by omega) hd hk).2 g hdone
   · intro b p hb
     exact Map.to_of (h.le b p hb) (Nat.lt_of_lt_of_le (hR0.rng b p hb).2 (ht.nx_mono (Nat.zero_le _) (by omega)))
section steps
variable {done : Nat → Prop} {J : Nat} {m : Map} {a : Act} {w : World} {i : Nat} {o : D5 × List Nat}
theorem NK (ht : Trace T self l env s rs env' s' S E V) {m' : Map} {J' : Nat} (hJ : J ≤ J') (hJl : J' ≤ l.length) (hs : ∀ i o d, l[i]? = some o → o.1.dst = some d → done i → ∃ v', a.tmps[d]? = some v' ∧ BH (m.to (S (max (i + 1) J)).nx) (V i) v') (hm : m.le m') (hi : l[i]? = some o) (hnd : ¬ done i)
 (Jl : ∀ j u d, l[j]? = some u → j ≠ i → u.1.dst = some d → o.1.dst ≠ some d) (hlt : ∀ d, o.1.dst = some d → d < a.tmps.size) {v' : Value} (hv : BH (m'.to (S (max (i + 1) J')).nx) (V i) v') :
 ∀ j u d, l[j]? = some u → u.1.dst = some d → (done j ∨ j = i) → ∃ v'', (a.put o.1.dst v').tmps[d]? = some v'' ∧ BH (m'.to (S (max (j + 1) J')).nx) (V j) v'' := by
 intro j u d hj hd hdone
 by_cases e : j = i
 · subst e
   obtain rfl := Option.some.inj (hj.symm.trans hi)
   refine ⟨v', ?_, hv⟩
   rw [hd]
   have := hlt d hd
   simp [Act.put, this]
 · rcases hdone with hdone | hdone
   · obtain ⟨v'', g1, g2⟩ := hs j u d hj hd hdone
     have hjl : j < l.length := (List.getElem?_eq_some_iff.1 hj).1
     refine ⟨v'', ?_, g2.mono (Map.to_mono hm (ht.nx_mono (by omega) (by omega)))⟩
     have hne := Jl j u d hj e hd
     cases hod : o.1.dst with
     | none => exact g1
     | some d' =>
      rw [hod] at hne
      simp only [Act.put]
      rw [Array.getElem?_setIfInBounds_ne (fun ee => hne (by rw [ee]))]
      exact g1
   · exact absurd hdone e
theorem PL (hr : ∀ t : Nat, (∀ i o, l[i]? = some o → o.1.dst = some t → ¬ done i) → a.tmps[t]? = a0.tmps[t]?) (hi : l[i]? = some o) {v' : Value} :
 ∀ t : Nat, (∀ j u, l[j]? = some u → u.1.dst = some t → ¬ (done j ∨ j = i)) → (a.put o.1.dst v').tmps[t]? = a0.tmps[t]? := by
 intro t h
 rw [← hr t fun j u hj hd hdone => h j u hj hd (.inl hdone)]
 cases hod : o.1.dst with
 | none => rfl
 | some d =>
  simp only [Act.put]
  rw [Array.getElem?_setIfInBounds_ne fun e => ?_]
  subst e
  exact h i o hi hod (.inr rfl)
theorem Inv.idle (ht : Trace T self l env s rs env' s' S E V) (h : Inv X l S V m0 w0 a0 done J m a w) (hi : l[i]? = some o) (hnd : ¬ done i) (hnw : Ee o.1.op = false) (Jl : ∀ j u d, l[j]? = some u → j ≠ i → u.1.dst = some d → o.1.dst ≠ some d)
 (hlt : ∀ d, o.1.dst = some d → d < a.tmps.size) {v' : Value} (hv : BH (m.to (S (max (i + 1) J)).nx) (V i) v') : Inv X l S V m0 w0 a0 (fun j => done j ∨ j = i) J m (a.put o.1.dst v') w :=
 { h with
  wr := fun j u hj hw => by
   rw [← h.wr j u hj hw]
   refine ⟨fun hd => ?_, .inl⟩
   rcases hd with hd | rfl
   · exact hd
   · obtain rfl := Option.some.inj (hj.symm.trans hi)
     rw [hnw] at hw; cases hw
  own := fun b p hb => by
   rcases h.own b p hb with h1 | ⟨k, h1, h2⟩
   · exact .inl h1
   · exact .inr ⟨k, .inl h1, h2⟩
  slots := NK ht (Nat.le_refl J) h.jle h.slots m.le_refl hi hnd Jl hlt hv
  rest := PL h.rest hi
  sz := by rw [MG]; exact h.sz
  defers := by rw [put_defers]; exact h.defers }
theorem Inv.write (ht : Trace T self l env s rs env' s' S E V) (h : Inv X l S V m0 w0 a0 done J m a w) (hi : l[i]? = some o) (hnd : ¬ done i) (hw : Ee o.1.op = true) (hJi : J ≤ i)
 (hno : ∀ k u, J ≤ k → k < i → l[k]? = some u → Ee u.1.op = false) (Jl : ∀ j u d, l[j]? = some u → j ≠ i → u.1.dst = some d → o.1.dst ≠ some d)
 (hlt : ∀ d, o.1.dst = some d → d < a.tmps.size) {v' : Value} {w' : World} (hd : Did X (m.to (S i).nx) (S i) w (V i) (S (i + 1)) v' w') :
 ∃ m', Inv X l S V m0 w0 a0 (fun j => done j ∨ j = i) (i + 1) m' (a.put o.1.dst v') w' := by
 obtain ⟨m1, hR1, hS1, hv1⟩ := hd.ex
 have hil : i < l.length := (List.getElem?_eq_some_iff.1 hi).1
 have hstep := (ht.step i o hi).2.1
 have hJn := ht.nx_mono hJi (Nat.le_of_lt hil)
 have h0n := ht.nx_mono (Nat.zero_le i) (Nat.le_of_lt hil)
 obtain ⟨m2, hm2⟩ : ∃ m2 : Map, m2 = fun b => if b < (S (i + 1)).nx then m1 b else m b := ⟨_, rfl⟩
 have lo : ∀ b, b < (S (i + 1)).nx → m2 b = m1 b := fun b hb => by rw [hm2]; exact if_pos hb
 have hi2 : ∀ b, (S (i + 1)).nx ≤ b → m2 b = m b := fun b hb => by rw [hm2]; exact if_neg (by omega)
 have hm12 : m1.le (m2.to (S (i + 1)).nx) := fun b p hb => by
  have hlt := (hR1.rng b p hb).2
  exact Map.to_of (by rw [lo b hlt]; exact hb) hlt
 have hle : m.le m2 := fun b p hb => by
  by_cases e : b < (S (i + 1)).nx
  · rw [lo b e]
    by_cases e2 : b < (S i).nx
    · exact hS1.le b p (Map.to_of hb e2)
    · rcases h.own b p hb with h1 | ⟨k, h1, h2, h3, h4⟩
      · omega
      · rcases Nat.lt_trichotomy k i with g | g | g
        · have := ht.nx_mono (i := k + 1) (j := i) g (Nat.le_of_lt hil); omega
        · subst g; exact absurd h1 hnd
        · have := ht.nx_mono (i := i + 1) (j := k) g (Nat.le_of_lt h2); omega
  · rw [hi2 b (by omega)]; exact hb
 have turn : ∀ k, k < w0.heap.size → Turned (m.to (S i).nx) (S i) k → Turned m0 (S 0) k := by
  rintro k hk ⟨b, p, ob, hb, ho, htn, rfl⟩
  obtain ⟨hb, hbl⟩ := Map.to_some hb
  by_cases e : b < (S J).nx
  · exact h.Rf b p ob hb e (by rw [← ht.keeps hJi (Nat.le_of_lt hil) hno b e]; exact ho) htn hk
  · have := h.Wh b p hb (by omega)
    omega
 refine ⟨m2, ?_⟩
 refine { jle := hil, wr := ?_, jl := .inr ⟨o, hi, hw⟩, own := ?_, objJ := ?_, objA := ?_, inj := ?_, lone := ?_, rng := ?_, glob := ?_, slots := NK ht (show J ≤ i + 1 by omega) hil h.slots hle hi hnd Jl hlt (by rw [Nat.max_self]; exact hv1.mono hm12), rest := PL h.rest hi, sz := by rw [MG]; exact h.sz, defers := by rw [put_defers]; exact h.defers, le := Map.le_trans h.le hle, size := Nat.le_trans h.size hS1.size, os := hS1.os.trans h.os, tape := hS1.tape.trans h.tape, output := hS1.output.trans h.output, frame := ?_, Rf := ?_, Wh := ?_, J8 := ?_, KP := ?_ }
 · intro j u hj hwj
   constructor
   · rintro (hdj | rfl)
     · have := (h.wr j u hj hwj).1 hdj; omega
     · omega
   · intro hlt
     by_cases e : j = i
     · exact .inr e
     · left
       rw [h.wr j u hj hwj]
       rcases Nat.lt_or_ge j J with g | g
       · exact g
       · rw [hno j u g (by omega) hj] at hwj; cases hwj
 · intro b p hb
   by_cases e : b < (S (i + 1)).nx
   · rw [lo b e] at hb
     by_cases e2 : b < (S i).nx
     · rcases h.own b p (Map.to_some (hS1.KP b p hb e2)).1 with h1 | ⟨k, h1, h2⟩
       · exact .inl h1
       · exact .inr ⟨k, .inl h1, h2⟩
     · exact .inr ⟨i, .inr rfl, hil, by omega, e⟩
   · rw [hi2 b (by omega)] at hb
     rcases h.own b p hb with h1 | ⟨k, h1, h2⟩
     · exact .inl h1
     · exact .inr ⟨k, .inl h1, h2⟩
 · intro b p ob hb hbl ho
   rw [lo b hbl] at hb
   obtain ⟨o', g1, g2⟩ := hR1.obj b p ob hb ho
   exact ⟨o', g1, g2.mono hm12⟩
 · intro b p k ob hb hk hkl hkb hbk ho
   have hbi : (S (i + 1)).nx ≤ b := Nat.le_trans (ht.nx_mono hk (Nat.le_of_lt hkl)) hkb
   rw [hi2 b hbi] at hb
   obtain ⟨o', g1, g2⟩ := h.objA b p k ob hb (by omega) hkl hkb hbk ho
   refine ⟨o', ?_, g2.mono (Map.to_mono hle (Nat.le_refl _))⟩
   rw [hS1.frame p.blk (h.rng b p hb)]
   · exact g1
   · rintro ⟨b1, p1, o1, hb1, _, _, e⟩
     obtain ⟨hb1, hb1l⟩ := Map.to_some hb1
     exact h.lone b p b1 p1 hb (by omega) hb1 (by omega) e
 · intro b b' p p' ob ob' hb hb' hbl hbl' ho ho' hd hd' he
   rw [lo b hbl] at hb
   rw [lo b' hbl'] at hb'
   exact hR1.inj b b' p p' ob ob' hb hb' ho ho' hd hd' he
 · intro b p b' p' hb hbi hb' hne
   rw [hi2 b hbi] at hb
   by_cases e : b' < (S (i + 1)).nx
   · rw [lo b' e] at hb'
     rcases Nat.lt_or_ge p'.blk w.heap.size with g | g
     · obtain ⟨b0, p0, g1, g2⟩ := hS1.J8 b' p' hb' g
       obtain ⟨g1, g3⟩ := Map.to_some g1
       have := h.lone b p b0 p0 hb (by omega) g1 (by omega)
       omega
     · have := h.rng b p hb
       omega
   · rw [hi2 b' (by omega)] at hb'
     exact h.lone b p b' p' hb (by omega) hb' hne
 · intro b p hb
   by_cases e : b < (S (i + 1)).nx
   · rw [lo b e] at hb
     exact (hR1.rng b p hb).1
   · rw [hi2 b (by omega)] at hb
     exact Nat.lt_of_lt_of_le (h.rng b p hb) hS1.size
 · intro g hg
   obtain ⟨p, h1, h2⟩ := h.glob g hg
   exact ⟨p, hle g p h1, h2⟩
 · intro k hk hnt
   rw [hS1.frame k (Nat.lt_of_lt_of_le hk h.size) fun htn => hnt (turn k hk htn)]
   exact h.frame k hk hnt
 · intro b p ob hb hbl ho htn hk
   rw [lo b hbl] at hb
   exact turn _ hk (hS1.turned _ (Nat.lt_of_lt_of_le hk h.size) ⟨b, p, ob, hb, ho, htn, rfl⟩)
 · intro b p hb hbi
   rw [hi2 b hbi] at hb
   exact h.Wh b p hb (by omega)
 · intro b p hb hk
   by_cases e : b < (S (i + 1)).nx
   · rw [lo b e] at hb
     obtain ⟨b0, p0, g1, g2⟩ := hS1.J8 b p hb (Nat.lt_of_lt_of_le hk h.size)
     obtain ⟨b1, p1, g3, g4⟩ := h.J8 b0 p0 (Map.to_some g1).1 (by omega)
     exact ⟨b1, p1, g3, by omega⟩
   · rw [hi2 b (by omega)] at hb
     exact h.J8 b p hb hk
 · intro b p hb hbl
   rw [lo b (by omega)] at hb
   exact h.KP b p (Map.to_some (hS1.KP b p hb (by omega))).1 hbl
theorem Inv.alloc (ht : Trace T self l env s rs env' s' S E V) (h : Inv X l S V m0 w0 a0 done J m a w) (hi : l[i]? = some o) (hnd : ¬ done i) (hnw : Ee o.1.op = false) (hJi : J ≤ i) (Jl : ∀ j u d, l[j]? = some u → j ≠ i → u.1.dst = some d → o.1.dst ≠ some d)
 (hlt : ∀ d, o.1.dst = some d → d < a.tmps.size) {obj : CX} {f : Nat → Value} (hS : S (i + 1) = (S i).new obj) (hV : V i = f (S i).nx) {v' : Value} {w' : World} (hd : Laid X (m.to (S i).nx) ⟨.e, (S i).nx⟩ w obj f v' w') :
 ∃ m', Inv X l S V m0 w0 a0 (fun j => done j ∨ j = i) J m' (a.put o.1.dst v') w' := by
 obtain ⟨p, o', hp, hwh, hos, htp, hout, hrel, hval⟩ := hd.ex
 have hil : i < l.length := (List.getElem?_eq_some_iff.1 hi).1
 have hJn := ht.nx_mono hJi (Nat.le_of_lt hil)
 have h0n := ht.nx_mono (Nat.zero_le i) (Nat.le_of_lt hil)
 have hnx : (S (i + 1)).nx = (S i).nx + 1 := by rw [hS]; rfl
 have hnone : m (S i).nx = none := by
  cases hm : m (S i).nx with
  | none => rfl
  | some q =>
   rcases h.own _ q hm with h1 | ⟨k, h1, h2, h3, h4⟩
   · omega
   · rcases Nat.lt_trichotomy k i with g | g | g
     · have := ht.nx_mono (i := k + 1) (j := i) g (Nat.le_of_lt hil); omega
     · subst g; exact absurd h1 hnd
     · have := ht.nx_mono (i := i + 1) (j := k) g (Nat.le_of_lt h2); omega
 have hle : m.le (m.add (S i).nx p) := fun b q hb => by
  rw [Map.add_ne m p (fun e => by subst e; rw [hnone] at hb; cases hb)]; exact hb
 have hadd : ((m.to (S i).nx).add (S i).nx p).le ((m.add (S i).nx p).to (S (i + 1)).nx) := fun b q hb => by
  by_cases e : b = (S i).nx
  · subst e
    rw [Map.add_same] at hb
    obtain rfl := Option.some.inj hb
    exact Map.to_of (Map.add_same _ _ _) (by omega)
  · rw [Map.add_ne _ _ e] at hb
    obtain ⟨g1, g2⟩ := Map.to_some hb
    exact Map.to_of (hle b q g1) (by omega)
 have PN : ∀ k, k < w.heap.size → w'.heap[k]? = w.heap[k]? := fun k hk => by rw [hwh, Array.getElem?_push, if_neg (by omega)]
 have hsz : w'.heap.size = w.heap.size + 1 := by rw [hwh]; simp
 have split : ∀ b q, (m.add (S i).nx p) b = some q → (b = (S i).nx ∧ q = p) ∨ (b ≠ (S i).nx ∧ m b = some q) := fun b q hb => by
  by_cases e : b = (S i).nx
  · subst e
    rw [Map.add_same] at hb
    exact .inl ⟨rfl, (Option.some.inj hb).symm⟩
  · rw [Map.add_ne _ _ e] at hb
    exact .inr ⟨e, hb⟩
 refine ⟨m.add (S i).nx p, ?_⟩
 refine { jle := h.jle, wr := ?_, jl := h.jl, own := ?_, objJ := ?_, objA := ?_, inj := ?_, lone := ?_, rng := ?_, glob := ?_, slots := NK ht (Nat.le_refl J) h.jle h.slots hle hi hnd Jl hlt (by rw [hV, Nat.max_eq_left (by omega)]; exact hval.mono hadd), rest := PL h.rest hi, sz := by rw [MG]; exact h.sz, defers := by rw [put_defers]; exact h.defers, le := Map.le_trans h.le hle, size := by have := h.size; omega, os := hos.trans h.os, tape := htp.trans h.tape, output := hout.trans h.output, frame := ?_, Rf := ?_, Wh := ?_, J8 := ?_, KP := ?_ }
 · intro j u hj hwj
   rw [← h.wr j u hj hwj]
   refine ⟨fun hd => ?_, .inl⟩
   rcases hd with hd | rfl
   · exact hd
   · obtain rfl := Option.some.inj (hj.symm.trans hi)
     rw [hnw] at hwj; cases hwj
 · intro b q hb
   rcases split b q hb with ⟨rfl, rfl⟩ | ⟨_, hb⟩
   · exact .inr ⟨i, .inr rfl, hil, Nat.le_refl _, by omega⟩
   · rcases h.own b q hb with h1 | ⟨k, h1, h2⟩
     · exact .inl h1
     · exact .inr ⟨k, .inl h1, h2⟩
 · intro b q ob hb hbl ho
   rcases split b q hb with ⟨rfl, rfl⟩ | ⟨_, hb⟩
   · omega
   · obtain ⟨o2, g1, g2⟩ := h.objJ b q ob hb hbl ho
     exact ⟨o2, by rw [PN _ (h.rng b q hb)]; exact g1, g2.mono (Map.to_mono hle (Nat.le_refl _))⟩
 · intro b q k ob hb hk hkl hkb hbk ho
   rcases split b q hb with ⟨rfl, rfl⟩ | ⟨_, hb⟩
   · have hki : k = i := by
      rcases Nat.lt_trichotomy k i with g | g | g
      · have := ht.nx_mono (i := k + 1) (j := i) g (Nat.le_of_lt hil); omega
      · exact g
      · have := ht.nx_mono (i := i + 1) (j := k) g (Nat.le_of_lt hkl); omega
     subst hki
     rw [hS, AA.Ak, if_pos rfl] at ho
     obtain rfl := Option.some.inj ho
     exact ⟨o', by rw [hwh, hp]; simp, hrel.mono hadd⟩
   · obtain ⟨o2, g1, g2⟩ := h.objA b q k ob hb hk hkl hkb hbk ho
     exact ⟨o2, by rw [PN _ (h.rng b q hb)]; exact g1, g2.mono (Map.to_mono hle (Nat.le_refl _))⟩
 · intro b b' q q' ob ob' hb hb' hbl hbl' ho ho' hd hd' he
   rcases split b q hb with ⟨rfl, rfl⟩ | ⟨_, hb⟩
   · omega
   · rcases split b' q' hb' with ⟨rfl, rfl⟩ | ⟨_, hb'⟩
     · omega
     · exact h.inj b b' q q' ob ob' hb hb' hbl hbl' ho ho' hd hd' he
 · intro b q b' q' hb hbi hb' hne
   rcases split b q hb with ⟨rfl, rfl⟩ | ⟨_, hb2⟩
   · rcases split b' q' hb' with ⟨rfl, rfl⟩ | ⟨_, hb'⟩
     · exact absurd rfl hne
     · have := h.rng b' q' hb'; omega
   · rcases split b' q' hb' with ⟨rfl, rfl⟩ | ⟨_, hb'⟩
     · have := h.rng b q hb2; omega
     · exact h.lone b q b' q' hb2 hbi hb' hne
 · intro b q hb
   rcases split b q hb with ⟨rfl, rfl⟩ | ⟨_, hb⟩
   · omega
   · have := h.rng b q hb; omega
 · intro g hg
   obtain ⟨q, h1, h2⟩ := h.glob g hg
   exact ⟨q, hle g q h1, h2⟩
 · intro k hk hnt
   rw [PN k (Nat.lt_of_lt_of_le hk h.size)]
   exact h.frame k hk hnt
 · intro b q ob hb hbl ho htn hk
   rcases split b q hb with ⟨rfl, rfl⟩ | ⟨_, hb⟩
   · omega
   · exact h.Rf b q ob hb hbl ho htn hk
 · intro b q hb hbi
   rcases split b q hb with ⟨rfl, rfl⟩ | ⟨_, hb⟩
   · have := h.size; omega
   · exact h.Wh b q hb hbi
 · intro b q hb hk
   rcases split b q hb with ⟨rfl, rfl⟩ | ⟨_, hb⟩
   · have := h.size; omega
   · exact h.J8 b q hb hk
 · intro b q hb hbl
   rcases split b q hb with ⟨rfl, rfl⟩ | ⟨_, hb⟩
   · omega
   · exact h.KP b q hb hbl
end steps
end
end Go.Im
namespace Go.Im
theorem exists_least {p : Nat → Prop} : ∀ n, (∃ k, k ≤ n ∧ p k) → ∃ k, p k ∧ ∀ j, p j → k ≤ j := by
 intro n
 induction n with
 | zero =>
  rintro ⟨k, hk, h⟩
  obtain rfl : k = 0 := by omega
  exact ⟨0, h, fun j _ => Nat.zero_le j⟩
 | succ n ih =>
  rintro ⟨k, hk, h⟩
  by_cases hex : ∃ k, k ≤ n ∧ p k
  · exact ih hex
  · refine ⟨k, h, fun j hj => ?_⟩
    rcases Nat.lt_or_ge j k with g | g
    · exact absurd ⟨j, by omega, hj⟩ hex
    · exact g
section
variable {X : Cx} {T : MT} {self : Self} {env : Env} {s : AA} {l : List (D5 × List Nat)} {rs : List Rec} {env' : Env} {s' : AA} {S : Nat → AA} {E : Nat → Env} {V : Nat → Value}
theorem Z9 {s s2 : AA} {o : ROp} (h : ∀ v b, ev env (Ku o) = some v → Oq v = some b → s2.get b = s.get b) : JR env s2 o = JR env s o := by
 cases o with
 | ld x =>
  show ob (ev env x) (rLd s2) = ob (ev env x) (rLd s)
  cases hx : ev env x with
  | none => rfl
  | some v =>
   simp only [Ep]
   cases v <;> try rfl
   case pointer p =>
    cases p with
    | none => rfl
    | some ad => simp only [rLd, AA.rd1]; rw [h _ _ hx rfl]
 | ldN k x =>
  show ob (ev env x) (DY s2 k) = ob (ev env x) (DY s k)
  cases hx : ev env x with
  | none => rfl
  | some v =>
   simp only [Ep]
   cases v <;> try rfl
   case pointer p =>
    cases p with
    | none => rfl
    | some ad => simp only [DY, AA.rd]; rw [h _ _ hx rfl]
 | OQ el k x lo hi mx =>
  show (ob (evO env lo) fun l => ob (evO env hi) fun h => ob (evO env mx) fun m => ob (ev env x) (rSl s2 el k l h m)) = (ob (evO env lo) fun l => ob (evO env hi) fun h => ob (evO env mx) fun m => ob (ev env x) (rSl s el k l h m))
  cases hx : ev env x with
  | none => rfl
  | some v =>
   have : ∀ l h' m, rSl s2 el k l h' m v = rSl s el k l h' m v := by
    intro l' h' m'
    cases v <;> try rfl
    case slice p len cap =>
     cases p with
     | none => rfl
     | some ad => simp only [rSl]; rw [h _ _ hx rfl]
   simp only [Ep, this]
 | bstr x =>
  show ob (ev env x) (Nu s2) = ob (ev env x) (Nu s)
  cases hx : ev env x with
  | none => rfl
  | some v =>
   simp only [Ep]
   cases v <;> try rfl
   case slice p len cap =>
    cases p with
    | none => rfl
    | some ad => simp only [Nu, AA.rd]; rw [h _ _ hx rfl]
 | look z ok x i =>
  show ev2 env x i (RI s2 z ok) = ev2 env x i (RI s z ok)
  cases hx : ev env x with
  | none => simp only [ev2, hx, lC]
  | some v =>
   have : ∀ u, RI s2 z ok v u = RI s z ok v u := by
    intro u
    cases v <;> try rfl
    case map p =>
     cases p with
     | none => rfl
     | some ad => simp only [RI]; rw [h _ _ hx rfl]
   simp only [ev2, hx, Ep, this]
 | lenM x =>
  show ob (ev env x) (Y9 s2) = ob (ev env x) (Y9 s)
  cases hx : ev env x with
  | none => rfl
  | some v =>
   simp only [Ep]
   cases v <;> try rfl
   case map p =>
    cases p with
    | none => rfl
    | some ad => simp only [Y9]; rw [h _ _ hx rfl]
theorem Trace.stateAt (ht : Trace T self l env s rs env' s' S E V) {w : Nat} (hw : w ≤ l.length) : stateAt rs s' w = S w := by
 unfold Go.Im.stateAt
 rw [Eu]
 by_cases e : w < l.length
 · obtain ⟨o, ho⟩ : ∃ o, l[w]? = some o := ⟨l[w]'e, List.getElem?_eq_getElem _⟩
   rw [(ht.step w o ho).2.2.2]
 · have : w = l.length := by omega
   subst this
   rw [List.getElem?_eq_none (by rw [ht.len]; exact Nat.le_refl _), ht.sn]
theorem O6 {o : ROp} {v : Value} {s : AA} (h : IJ env s v (.r o) = true) : JR env s o = some v ∧ (∀ u b, ev env (Ku o) = some u → Oq u = some b → b < s.nx) := by
 unfold IJ at h
 have hc : Iz s (ev env (Ku o)) = true ∧ (match JR env s o with | some v' => veq v v' | none => false) = true := by
  cases hb : Iz s (ev env (Ku o)) with
  | false => simp only [hb] at h; cases h
  | true => simp only [hb] at h; exact ⟨rfl, h⟩
 refine ⟨?_, fun u b hu hb => ?_⟩
 · have h2 := hc.2
   cases hr : JR env s o with
   | none => rw [hr] at h2; cases h2
   | some v' => rw [hr] at h2; rw [veq_eq h2]
 · have h1 := hc.1
   rw [hu] at h1
   simp only [Iz] at h1
   rw [hb] at h1
   exact Bq.1 h1
theorem L9 {r w : Nat} {LC : Rec} {o : D5 × List Nat} : ∀ {rds : List (Nat × List Nat)}, J4 rs s' l rds = true → listed r w rds = true → rs[r]? = some LC → l[r]? = some o → want LC.env o.1.guard = some true →
 IJ LC.env (Go.Im.stateAt rs s' w) LC.v o.1.op = true ∧ IJ LC.env (Go.Im.stateAt rs s' (w + 1)) LC.v o.1.op = true
 | [], _, h, _, _, _ => by simp [listed] at h
 | (j, ws) :: rds, hc, h, hr, ho, hw => by
  have hc' : chkO rs s' ws (nth rs j) (nth l j) = true ∧ J4 rs s' l rds = true := by
   unfold J4 at hc
   cases hb : chkO rs s' ws (nth rs j) (nth l j) with
   | false => rw [hb] at hc; cases hc
   | true => rw [hb] at hc; exact ⟨rfl, hc⟩
  simp only [listed, Bool.or_eq_true, Bool.and_eq_true, decide_eq_true_eq] at h
  rcases h with ⟨rfl, hmem⟩ | h
  · have h1 := hc'.1
    rw [Eu, Eu, hr, ho] at h1
    simp only [chkO, hw, chkW] at h1
    have all : ∀ (ws : List Nat), TV rs s' LC o.1.op ws = true → w ∈ ws → IJ LC.env (Go.Im.stateAt rs s' w) LC.v o.1.op = true ∧ IJ LC.env (Go.Im.stateAt rs s' (w + 1)) LC.v o.1.op = true := by
     intro ws
     induction ws with
     | nil => intro _ h; simp at h
     | cons x ws ih =>
      intro h hm
      unfold TV at h
      cases hb : (IJ LC.env (Go.Im.stateAt rs s' x) LC.v o.1.op && IJ LC.env (Go.Im.stateAt rs s' (Nat.succ x)) LC.v o.1.op) with
      | false => rw [hb] at h; cases h
      | true =>
       rw [hb] at h
       rcases List.mem_cons.1 hm with rfl | hm
       · simp only [Bool.and_eq_true] at hb; exact hb
       · exact ih h hm
    exact all ws h1 hmem
  · exact L9 hc'.2 h hr ho hw
end
end Go.Im
namespace Go.Im
section
variable {X : Cx} {T : MT} {self : Self} {env : Env} {s : AA} {l : List (D5 × List Nat)} {rds : List (Nat × List Nat)} {rs : List Rec} {env' : Env} {s' : AA} {S : Nat → AA} {E : Nat → Env} {V : Nat → Value}
variable {F : Fence} {inR : Bool} {n : Nat} {m0 : Map} {w0 : World} {a0 : Act} {done : Nat → Prop} {J : Nat} {m : Map} {a : Act} {w : World} {i : Nat} {o : D5 × List Nat} {ops : Array Oper} {nt : Nat} {Q : Exit → Act → World → Prop} {K : Act → World → Prop}
structure Reg (X : Cx) (nt : Nat) (ops : Array Oper) (l : List (D5 × List Nat)) (rds : List (Nat × List Nat)) : Prop where
 len : l.length = ops.size
 op : ∀ (i : Nat) (o : D5 × List Nat), l[i]? = some o → ∃ oo, ops[i]? = some oo ∧ J6 X.P X.G X.TA X.TK nt ops o.1 oo = true
 pair : ∀ i j : Nat, i < j → j < ops.size → ((ahead ops).getD j 0).testBit i = true ∨ NH l rds i j = true
 uniq : ∀ (i j : Nat) (u v : D5 × List Nat) (d : Nat), l[i]? = some u → l[j]? = some v → u.1.dst = some d → v.1.dst = some d → i = j
theorem EZ {i j : Nat} {u v : D5 × List Nat} (h : NH l rds i j = true) (hi : l[i]? = some u) (hj : l[j]? = some v) :
 (∀ d, u.1.dst = some d → d ∉ v.2) ∧ (∀ d, v.1.dst = some d → d ∉ u.2) ∧ ¬ (Ee u.1.op = true ∧ Ee v.1.op = true) ∧ ¬ (isAl u.1.op = true ∧ Ee v.1.op = true) ∧
  (isRd u.1.op = true → Ee v.1.op = true → listed i j rds = true) ∧ (Ee u.1.op = true → isRd v.1.op = true → listed j i rds = true) := by
 unfold NH at h
 rw [hi, hj] at h
 simp only [Bool.and_eq_true, Bool.not_eq_true', Bool.or_eq_true, Bool.and_eq_false_iff] at h
 obtain ⟨⟨⟨⟨⟨h1, h2⟩, h3⟩, h4⟩, h5⟩, h6⟩ := h
 refine ⟨fun d hd => ?_, fun d hd => ?_, fun ⟨g1, g2⟩ => ?_, fun ⟨g1, g2⟩ => ?_, fun g1 g2 => ?_, fun g1 g2 => ?_⟩
 · rw [hd] at h1; simpa [YI] using h1
 · rw [hd] at h2; simpa [YI] using h2
 · rcases h3 with h3 | h3 <;> simp_all
 · rcases h4 with h4 | h4 <;> simp_all
 · rcases h5 with (h5 | h5) | h5 <;> simp_all
 · rcases h6 with (h6 | h6) | h6 <;> simp_all
set_option maxHeartbeats 1000000 in
theorem ZA (hX : Good X T) (hS : Gx X self) (hF : Fen F inR) (PO : Reg X nt ops l rds) (ht : Trace T self l env s rs env' s' S E V) (hchk : J4 rs s' l rds = true)
 (h : Inv X l S V m0 w0 a0 done J m a w) (hE : CB m0 env a0.tmps) (hR0 : Rl X m0 (S 0) w0) (hnt : a0.tmps.size = nt) (hdl : ∀ i, done i → i < l.length)
 (down : ∀ k j, done j → ((ahead ops).getD j 0).testBit k = true → done k) (hi : l[i]? = some o) (hnd : ¬ done i) (hrd : ∀ k, ((ahead ops).getD i 0).testBit k = true → done k)
 (hK : ∀ J' m' a' w', Inv X l S V m0 w0 a0 (fun j => done j ∨ j = i) J' m' a' w' → K a' w') : wpOpIn F n X.P ops Q i K a w := by
 have hil : i < l.length := (List.getElem?_eq_some_iff.1 hi).1
 have hJl := h.jle
 obtain ⟨oo, hoo, hok⟩ := PO.op i o hi
 obtain ⟨hstep, hmono, hEi, hrec⟩ := ht.step i o hi
 have hok' := hok
 simp only [J6, Bool.and_eq_true, decide_eq_true_eq] at hok'
 obtain ⟨⟨⟨⟨hdst, hdn⟩, hg⟩, hdf⟩, hop⟩ := hok'
 have PS : ∀ j u, j < i → l[j]? = some u → ¬ done j → NH l rds j i = true := fun j u hj hu hndj => by
  rcases PO.pair j i hj (by rw [← PO.len]; exact hil) with g | g
  · exact absurd (hrd j g) hndj
  · exact g
 have PU : ∀ j u, i < j → l[j]? = some u → done j → NH l rds i j = true := fun j u hj hu hdj => by
  rcases PO.pair i j hj (by rw [← PO.len]; exact hdl j hdj) with g | g
  · exact absurd (down i j hdj g) hnd
  · exact g
 have Jl : ∀ j u d, l[j]? = some u → j ≠ i → u.1.dst = some d → o.1.dst ≠ some d := fun j u d hj hne hd he => hne (PO.uniq j i u o d hj hi hd he)
 have hlt : ∀ d, o.1.dst = some d → d < a.tmps.size := fun d hd => by
  rw [h.sz, hnt]
  rw [hdst] at hd
  rw [hd] at hdn
  simpa using hdn
 have hap : ∀ j u d, l[j]? = some u → j ≠ i → u.1.dst = some d → d ∈ o.2 → (j < i → done j) ∧ (i < j → ¬ done j) := fun j u d hj hne hd hmem => by
  refine ⟨fun hlt => ?_, fun hlt hdj => ?_⟩
  · apply Classical.byContradiction
    intro hndj
    exact (EZ (PS j u hlt hj hndj) hj hi).1 d hd hmem
  · exact (EZ (PU j u hlt hj hdj) hi hj).2.1 d hd hmem
 have henv := h.envAt ht hE hR0 hi hnd hap
 have U3 : ∀ k, k ≤ l.length → OY X.G (m.to (S k).nx) := fun k hk g hg => by
  obtain ⟨p, g1, g2⟩ := hR0.glob g hg
  exact ⟨p, Map.to_of (h.le g p g1) (Nat.lt_of_lt_of_le (hR0.rng g p g1).2 (ht.nx_mono (Nat.zero_le k) hk)), g2⟩
 have hmaxl : max i J ≤ l.length := by omega
 have VQ : ∀ v', S (i + 1) = S i → Ee o.1.op = false → BH (m.to (S (max i J)).nx) (V i) v' → K (a.put oo.dst v') w := fun v' hSi hnw hv => by
  rw [← hdst]
  exact hK J m _ w (h.idle ht hi hnd hnw Jl hlt (hv.mono (Map.to_mono m.le_refl (ht.nx_mono (by omega) (by omega)))))
 have run : ∀ v' , want (Env.keep (E i) o.2) o.1.guard = some true → (execOp a.eval oo).run X.P w = .ok (.value v') w → K (a.put oo.dst v') w → wpOpIn F n X.P ops Q i K a w := fun v' hw hrun hk => by
  unfold wpOpIn
  rw [hoo]
  simp only
  rw [Hw hg henv hw]
  simp only [if_true]
  refine ⟨fun f _ => hF.fn f, ?_⟩
  rw [PI (P := X.P) hdf, hrun, Oper.uponIn_value]
  exact hk
 have skip : want (Env.keep (E i) o.2) o.1.guard = some false → K (a.put oo.dst undef) w → wpOpIn F n X.P ops Q i K a w := fun hw hk => by
  unfold wpOpIn
  rw [hoo]
  simp only
  rw [Hw hg henv hw]
  simp only [Bool.false_eq_true, if_false]
  exact ⟨fun f _ => hF.fn f, hk⟩
 cases hopk : o.1.op with
 | w io =>
  have hw : Ee o.1.op = true := by rw [hopk]; rfl
  have hJi : J ≤ i := by
   rcases Nat.lt_or_ge i J with g | g
   · exact absurd ((h.wr i o hi hw).2 g) hnd
   · exact g
  have hno : ∀ k u, J ≤ k → k < i → l[k]? = some u → Ee u.1.op = false := fun k u hJk hki hu => by
   cases hwu : Ee u.1.op with
   | false => rfl
   | true =>
    have hndk : ¬ done k := fun hd => by have := (h.wr k u hu hwu).1 hd; omega
    exact absurd ⟨hwu, hw⟩ (EZ (PS k u hki hu hndk) hu hi).2.2.1
  have hRi := h.at ht hdl hJi (Nat.le_of_lt hil) hno hR0
  rw [Nat.max_eq_left hJi] at henv
  refine VJ (env := Env.keep (E i) o.2) (s := S i) (m := m.to (S i).nx) hX hS hF hoo hok (Qs := fun r => r = (V i, S (i + 1))) (by rw [hstep]; exact rfl) henv hRi ?_
  intro v s1 v' w' hq hd
  simp only [Prod.mk.injEq] at hq
  obtain ⟨rfl, rfl⟩ := hq
  obtain ⟨m', hI⟩ := h.write ht hi hnd hw hJi hno Jl hlt hd
  rw [← hdst]
  exact hK _ _ _ _ hI
 | p io =>
  have hnw : Ee o.1.op = false := by rw [hopk]; rfl
  rcases Hy hstep with ⟨h1, h2, h3⟩ | ⟨h1, h2⟩
  · exact skip h1 (VQ _ h3 hnw (by rw [h2]; exact Ik _))
  · rw [hopk] at h2
    obtain ⟨g1, g2⟩ := VL h2
    have hop2 : okP X.P X.G X.TA io oo.op = true := by rw [hopk] at hop; exact hop
    obtain ⟨od, oop, oty, opos, oaf, ogd⟩ := oo
    obtain ⟨v', e1, e2⟩ := VG (dst := od) (type := oty) (pos := opos) (after := oaf) (guard := ogd) (X := X) hX.ta hX.mt hop2 g1 henv (U3 _ hmaxl) w
    exact run v' h1 e1 (VQ v' g2 hnw e2)
 | a io =>
  have hnw : Ee o.1.op = false := by rw [hopk]; rfl
  rcases Hy hstep with ⟨h1, h2, h3⟩ | ⟨h1, h2⟩
  · exact skip h1 (VQ _ h3 hnw (by rw [h2]; exact Ik _))
  · rw [hopk] at h2
    obtain ⟨ob, f, g1, g2, g3⟩ := VO h2
    have hJi : J ≤ i := by
     rcases h.jl with e | ⟨u, hu, hwu⟩
     · omega
     · rcases Nat.lt_or_ge i J with g | g
       · have hne : i ≠ J - 1 := fun e => by
          rw [← e, hi] at hu
          obtain rfl := Option.some.inj hu
          rw [hnw] at hwu; cases hwu
         have hdj : done (J - 1) := (h.wr (J - 1) u hu hwu).2 (by omega)
         exact absurd ⟨by rw [hopk]; rfl, hwu⟩ (EZ (PU (J - 1) u (by omega) hu hdj) hi hu).2.2.2.1
       · exact g
    have hop2 : okA X.P X.G io oo.op = true := by rw [hopk] at hop; exact hop
    rw [Nat.max_eq_left hJi] at henv
    have hRv : Rl X (m.to (S i).nx) ⟨.e, (S i).nx⟩ w := ⟨fun b p ob hb ho => by simp [AA.get] at ho, fun b p hb => ⟨h.rng b p (Map.to_some hb).1, (Map.to_some hb).2⟩, fun b b' p p' ob ob' _ _ ho => by simp [AA.get] at ho, U3 i (Nat.le_of_lt hil), h.fixTo ht hR0 i⟩
    have hput := hdst
    obtain ⟨od, oop, oty, opos, oaf, ogd⟩ := oo
    obtain ⟨v', w', e1, e2⟩ := RY (dst := od) (type := oty) (pos := opos) (after := oaf) (guard := ogd) hop2 g1 henv hRv
    obtain ⟨m', hI⟩ := h.alloc ht hi hnd hnw hJi Jl hlt g3 g2 e2
    unfold wpOpIn
    rw [hoo]
    simp only
    rw [Hw hg henv h1]
    simp only [if_true]
    refine ⟨fun f _ => hF.fn f, ?_⟩
    rw [PI (P := X.P) hdf, e1, Oper.uponIn_value]
    simp only at hput
    simp only [← hput]
    exact hK _ _ _ _ hI
 | r io =>
  have hnw : Ee o.1.op = false := by rw [hopk]; rfl
  have hrdk : isRd o.1.op = true := by rw [hopk]; rfl
  rcases Hy hstep with ⟨h1, h2, h3⟩ | ⟨h1, h2⟩
  · exact skip h1 (VQ _ h3 hnw (by rw [h2]; exact Ik _))
  · rw [hopk] at h2
    obtain ⟨g1, g2⟩ := VN h2
    have hop2 : okR X.P X.G X.TK io oo.op = true := by rw [hopk] at hop; exact hop
    have fin : ∀ s2, JR (Env.keep (E i) o.2) s2 io = some (V i) → Rl X (m.to (S (max i J)).nx) s2 w → wpOpIn F n X.P ops Q i K a w := fun s2 hr hR => by
     obtain ⟨od, oop, oty, opos, oaf, ogd⟩ := oo
     obtain ⟨v', e1, e2⟩ := VI (TK := X.TK) (dst := od) (type := oty) (pos := opos) (after := oaf) (guard := ogd) hop2 hr henv hR
     exact run v' h1 e1 (VQ v' g2 hnw e2)
    rcases Nat.lt_or_ge i J with hiJ | hJi
    · -- the last writer that is done is behind it in the text
      rcases h.jl with e | ⟨u, hu, hwu⟩
      · omega
      · have hne : i ≠ J - 1 := fun e => by
         rw [← e, hi] at hu
         obtain rfl := Option.some.inj hu
         rw [hnw] at hwu; cases hwu
        have hdj : done (J - 1) := (h.wr (J - 1) u hu hwu).2 (by omega)
        have hls := (EZ (PU (J - 1) u (by omega) hu hdj) hi hu).2.2.2.2.1 hrdk hwu
        have hc := (L9 hchk hls hrec hi h1).2
        rw [show J - 1 + 1 = J by omega, ht.stateAt h.jle, hopk] at hc
        have hRJ := h.at ht hdl (Nat.le_refl J) h.jle (fun k u h1 h2 => by omega) hR0
        refine fin (S J) (O6 hc).1 ?_
        rw [Nat.max_eq_right (Nat.le_of_lt hiJ)]
        exact hRJ
    · by_cases hex : ∃ k u, J ≤ k ∧ k < i ∧ l[k]? = some u ∧ Ee u.1.op = true
      · -- a writer ahead of it in the text is not done yet: the first of these
        obtain ⟨k0, hk0⟩ := hex
        have hleast := exists_least (p := fun k => ∃ u, J ≤ k ∧ k < i ∧ l[k]? = some u ∧ Ee u.1.op = true) k0 ⟨k0, Nat.le_refl _, hk0⟩
        obtain ⟨k, ⟨u, hJk, hki, hu, hwu⟩, hmin⟩ := hleast
        have hndk : ¬ done k := fun hd => by have := (h.wr k u hu hwu).1 hd; omega
        have hls := (EZ (PS k u hki hu hndk) hu hi).2.2.2.2.2 hwu hrdk
        have hc := (L9 hchk hls hrec hi h1).1
        rw [ht.stateAt (by omega), hopk] at hc
        obtain ⟨hc1, hc2⟩ := O6 hc
        have hRk := h.at ht hdl hJk (by omega) (fun k' u' g1 g2 g3 => by
         cases hw' : Ee u'.1.op with
         | false => rfl
         | true => have := hmin k' ⟨u', g1, by omega, g3, hw'⟩; omega) hR0
        have hnk := ht.nx_mono (Nat.le_of_lt hki) (Nat.le_of_lt hil)
        rw [Nat.max_eq_left hJi] at fin
        have hone : ∃ s2 : AA, (∀ v b, ev (Env.keep (E i) o.2) (Ku io) = some v → Oq v = some b → s2.get b = (S k).get b) ∧ (∀ b ob, s2.get b = some ob → b < (S k).nx ∧ (S k).get b = some ob) ∧ s2.nx = (S i).nx ∧ (∀ b b' ob ob', s2.get b = some ob → s2.get b' = some ob' → b = b') := by
         cases hv : ev (Env.keep (E i) o.2) (Ku io) with
         | none => exact ⟨⟨.e, (S i).nx⟩, fun v b hv' => (by cases hv'), fun b ob hb => (by simp [AA.get] at hb), rfl, fun b b' ob ob' hb => (by simp [AA.get] at hb)⟩
         | some v =>
          cases hb : Oq v with
          | none => exact ⟨⟨.e, (S i).nx⟩, fun v' b hv' hb' => (by obtain rfl := Option.some.inj hv'; rw [hb] at hb'; cases hb'), fun b ob hb => (by simp [AA.get] at hb), rfl, fun b b' ob ob' hb => (by simp [AA.get] at hb)⟩
          | some b0 =>
           have hb0 := hc2 v b0 hv hb
           cases hget : (S k).get b0 with
           | none => exact ⟨⟨.e, (S i).nx⟩, fun v' b hv' hb' => (by obtain rfl := Option.some.inj hv'; rw [hb] at hb'; obtain rfl := Option.some.inj hb'; rw [hget]; rfl), fun b ob hb => (by simp [AA.get] at hb), rfl, fun b b' ob ob' hb => (by simp [AA.get] at hb)⟩
           | some ob0 =>
            have hg2 : ∀ b, (⟨Tr.set .e b0 ob0, (S i).nx⟩ : AA).get b = if b = b0 then some ob0 else none := fun b => by
             show (Tr.set .e b0 ob0).get b = _
             rw [Tr.get_set]; rfl
            refine ⟨⟨Tr.set .e b0 ob0, (S i).nx⟩, fun v' b hv' hb' => ?_, fun b ob hb' => ?_, rfl, fun b b' ob ob' hb1 hb2 => ?_⟩
            · obtain rfl := Option.some.inj hv'
              rw [hb] at hb'
              obtain rfl := Option.some.inj hb'
              rw [hg2, if_pos rfl, hget]
            · rw [hg2] at hb'
              split at hb'
              · next e => subst e; exact ⟨hb0, by rw [hget]; exact hb'⟩
              · cases hb'
            · rw [hg2] at hb1 hb2
              split at hb1
              · split at hb2
                · omega
                · cases hb2
              · cases hb1
        obtain ⟨s2, hs1, hs2, hs3, hs4⟩ := hone
        refine fin s2 ((Z9 hs1).trans hc1) ⟨fun b p ob hb ho => ?_, fun b p hb => ⟨h.rng b p (Map.to_some hb).1, by rw [hs3]; exact (Map.to_some hb).2⟩, fun b b' p p' ob ob' _ _ ho ho' _ _ _ => hs4 b b' ob ob' ho ho', U3 i (Nat.le_of_lt hil), h.fixTo ht hR0 _⟩
        obtain ⟨hbk, hgk⟩ := hs2 b ob ho
        obtain ⟨o2, e1, e2⟩ := hRk.obj b p ob (Map.to_of (Map.to_some hb).1 hbk) hgk
        exact ⟨o2, e1, e2.mono (Map.to_mono m.le_refl hnk)⟩
      · have hRi := h.at ht hdl hJi (Nat.le_of_lt hil) (fun k u g1 g2 g3 => by
         cases hw' : Ee u.1.op with
         | false => rfl
         | true => exact absurd ⟨k, u, g1, g2, g3, hw'⟩ hex) hR0
        refine fin (S i) g1 ?_
        rw [Nat.max_eq_left hJi]
        exact hRi
end
end Go.Im
namespace Go.Im
section
variable {X : Cx} {T : MT} {self : Self} {env : Env} {s : AA} {l : List (D5 × List Nat)} {rds : List (Nat × List Nat)} {rs : List Rec} {env' : Env} {s' : AA} {S : Nat → AA} {E : Nat → Env} {V : Nat → Value}
variable {F : Fence} {inR : Bool} {n : Nat} {m0 : Map} {w0 : World} {a0 : Act} {ops : Array Oper} {nt B : Nat} {Q : Exit → Act → World → Prop}
theorem GU {α : Type} (f : α → Option Nat) : ∀ (L : List α), (L.filterMap f).Nodup → ∀ (i j : Nat) (x y : α) (d : Nat), L[i]? = some x → L[j]? = some y → f x = some d → f y = some d → i = j
 | [], _, i, j, x, y, d, h, _, _, _ => by simp at h
 | z :: L, hn, i, j, x, y, d, hi, hj, hx, hy => by
  have htail : (L.filterMap f).Nodup := by
   cases hz : f z with
   | none => rw [List.filterMap_cons_none hz] at hn; exact hn
   | some c => rw [List.filterMap_cons_some hz] at hn; exact (List.nodup_cons.1 hn).2
  have hnot : ∀ k u, L[k]? = some u → f u = some d → f z = some d → False := fun k u hk hu hz => by
   rw [List.filterMap_cons_some hz] at hn
   exact (List.nodup_cons.1 hn).1 (List.mem_filterMap.2 ⟨u, List.mem_of_getElem? hk, hu⟩)
  cases i with
  | zero =>
   simp at hi; subst hi
   cases j with
   | zero => rfl
   | succ j => exact (hnot j y (by simpa using hj) hy hx).elim
  | succ i =>
   cases j with
   | zero => simp at hj; subst hj; exact (hnot i x (by simpa using hi) hx hy).elim
   | succ j => rw [GU f L htail i j x y d (by simpa using hi) (by simpa using hj) hx hy]
theorem O7 {P : Program} {G TA TK : List Nat} {nt : Nat} {ops : Array Oper} : ∀ {l : List D5} {l' : List Oper}, EX P G TA TK nt ops l l' = true → l.length = l'.length ∧ ∀ (i : Nat) (o : D5), l[i]? = some o → ∃ oo, l'[i]? = some oo ∧ J6 P G TA TK nt ops o oo = true
 | [], [], _ => ⟨rfl, fun i o h => by simp at h⟩
 | a :: l, b :: l', h => by
  simp only [EX, Bool.and_eq_true] at h
  obtain ⟨h1, h2⟩ := O7 h.2
  refine ⟨by simp [h1], fun i o hi => ?_⟩
  cases i with
  | zero => simp at hi; subst hi; exact ⟨b, by simp, h.1⟩
  | succ i => simpa using h2 i o (by simpa using hi)
 | [], _ :: _, h => by simp [EX] at h
 | _ :: _, [], h => by simp [EX] at h
theorem reg_of (h1 : EX X.P X.G X.TA X.TK nt ops (l.map (·.1)) ops.toList = true) (h2 : Oa ops l rds = true) (h3 : J7 ops = true) : Reg X nt ops l rds := by
 obtain ⟨hlen, hop⟩ := O7 h1
 have hlen' : l.length = ops.size := by simpa using hlen
 have hop' : ∀ (i : Nat) (o : D5 × List Nat), l[i]? = some o → ∃ oo, ops[i]? = some oo ∧ J6 X.P X.G X.TA X.TK nt ops o.1 oo = true := fun i o hi => by
  obtain ⟨oo, g1, g2⟩ := hop i o.1 (by simp [hi])
  exact ⟨oo, by simpa using g1, g2⟩
 refine ⟨hlen', hop', fun i j hij hj => ?_, fun i j u v d hi hj hu hv => ?_⟩
 · unfold Oa at h2
   have := List.all_eq_true.1 (List.all_eq_true.1 h2 j (List.mem_range.2 hj)) i (List.mem_range.2 hij)
   simpa using this
 · obtain ⟨ou, g1, g2⟩ := hop' i u hi
   obtain ⟨ov, g3, g4⟩ := hop' j v hj
   simp only [J6, Bool.and_eq_true, decide_eq_true_eq] at g2 g4
   simp only [J7, Bool.and_eq_true, decide_eq_true_eq] at h3
   exact GU (·.dst) ops.toList h3.2 i j ou ov d (by simpa using g1) (by simpa using g3) (by rw [← g2.1.1.1.1]; exact hu) (by rw [← g4.1.1.1.1]; exact hv)
theorem Wi (h3 : J7 ops = true) {i : Nat} {o : Oper} (hi : ops[i]? = some o) : ∀ e ∈ o.after.toList, binds e = true → e.on < i := fun e he hb => by
 simp only [J7, Bool.and_eq_true] at h3
 have hm : (o, i) ∈ ops.toList.zipIdx := by
  rw [List.mem_zipIdx_iff_getElem?]
  simpa using hi
 have := List.all_eq_true.1 (List.all_eq_true.1 h3.1 (o, i) hm) e he
 simp only [hb, Bool.not_true, Bool.false_or, decide_eq_true_eq] at this
 exact this
theorem Inv.finish (ht : Trace T self l env s rs env' s' S E V) {done : Nat → Prop} {J : Nat} {m : Map} {a : Act} {w : World} (h : Inv X l S V m0 w0 a0 done J m a w) (hE : CB m0 env a0.tmps) (hR0 : Rl X m0 (S 0) w0)
 (hdl : ∀ i, done i → i < l.length) (hall : ∀ i, i < l.length → done i) (hnt : a0.tmps.size = nt) (hmk : Marks m0 w0 B a0.defers) (hlow : B ≤ w0.heap.size) :
 St X nt B (m.to (S l.length).nx) (E l.length) (S l.length) a w ∧ Step m0 (S 0) w0 (m.to (S l.length).nx) (S l.length) w := by
 have hJl := h.jle
 have hno : ∀ i o, J ≤ i → i < l.length → l[i]? = some o → Ee o.1.op = false := fun i o g1 g2 g3 => by
  cases hw : Ee o.1.op with
  | false => rfl
  | true => have := (h.wr i o g3 hw).1 (hall i g2); omega
 have hR := h.at ht hdl hJl (Nat.le_refl _) hno hR0
 have h0n := ht.nx_mono (Nat.zero_le l.length) (Nat.le_refl _)
 have hle : m0.le (m.to (S l.length).nx) := fun b p hb => Map.to_of (h.le b p hb) (Nat.lt_of_lt_of_le (hR0.rng b p hb).2 h0n)
 have hstep : Step m0 (S 0) w0 (m.to (S l.length).nx) (S l.length) w := by
  refine ⟨hle, h0n, fun b p hb hlt => h.KP b p (Map.to_some hb).1 hlt, h.size, h.os, h.tape, h.output, h.frame, ?_, fun b p hb hlt => h.J8 b p (Map.to_some hb).1 hlt⟩
  rintro k hk ⟨b, p, ob, hb, ho, htn, rfl⟩
  obtain ⟨hb, hbl⟩ := Map.to_some hb
  by_cases e : b < (S J).nx
  · exact h.Rf b p ob hb e (by rw [← ht.keeps hJl (Nat.le_refl _) hno b e]; exact ho) htn hk
  · have := h.Wh b p hb (by omega)
    omega
 refine ⟨⟨fun t v hv => ?_, hR, by rw [h.sz]; exact hnt, by rw [h.defers]; exact hmk.step hstep, Nat.le_trans hlow h.size⟩, hstep⟩
 rcases ht.env_get l.length (Nat.le_refl _) t v hv with ⟨j, u, h1, h2, h3, rfl⟩ | ⟨h1, h2⟩
 · obtain ⟨v', g1, g2⟩ := h.slots j u t h2 h3 (hall j h1)
   exact ⟨v', g1, g2.mono (Map.to_mono m.le_refl (ht.nx_mono (by omega) (Nat.le_refl _)))⟩
 · obtain ⟨v', g1, g2⟩ := hE t v h2
   refine ⟨v', ?_, g2.mono hle⟩
   rw [h.rest t fun j u hj hd _ => h1 j u (List.getElem?_eq_some_iff.1 hj).1 hj hd]
   exact g1
def isDone (listed : Array Bool) (i : Nat) : Prop := listed[i]? = some true
def left (listed : Array Bool) : Nat := listed.toList.countP (· == false)
theorem iD {listed : Array Bool} {i : Nat} (h : listed[i]? = some false) : left (listed.setIfInBounds i true) + 1 = left listed := by
 unfold left
 rw [Array.toList_setIfInBounds]
 have hl : listed.toList[i]? = some false := by simpa using h
 generalize listed.toList = L at hl
 clear h
 induction L generalizing i with
 | nil => simp at hl
 | cons b L ih =>
  cases i with
  | zero => simp at hl; subst hl; simp
  | succ i =>
   have := ih (i := i) (by simpa using hl)
   simp only [List.set_cons_succ, List.countP_cons]
   omega
set_option maxHeartbeats 1000000 in
theorem iE (hX : Good X T) (hS : Gx X self) (hF : Fen F inR) (PO : Reg X nt ops l rds) (hshape : J7 ops = true) (ht : Trace T self l env s rs env' s' S E V) (hchk : J4 rs s' l rds = true)
 (hE : CB m0 env a0.tmps) (hR0 : Rl X m0 (S 0) w0) (hnt : a0.tmps.size = nt)
 (hQ : ∀ (a : Act) (w : World) (m : Map) (J : Nat) (done : Nat → Prop), (∀ i, done i → i < l.length) → (∀ i, i < l.length → done i) → Inv X l S V m0 w0 a0 done J m a w → Q .normal a w) :
 ∀ (fuel : Nat) (listed : Array Bool) (a : Act) (w : World) (m : Map) (J : Nat), listed.size = ops.size → left listed ≤ fuel → (∀ k j, isDone listed j → ((ahead ops).getD j 0).testBit k = true → isDone listed k) → Inv X l S V m0 w0 a0 (isDone listed) J m a w →
  wpAnyIn F n X.P .any ops Q fuel listed a w := by
 have iF := PO.len
 have iG : ∀ {listed : Array Bool}, listed.size = ops.size → ∀ i, isDone listed i → i < l.length := fun hsz i hd => by
  rw [iF, ← hsz]
  exact (Array.getElem?_eq_some_iff.1 hd).1
 have stop : ∀ listed : Array Bool, listed.size = ops.size → Region.ready .any ops listed = [] → ∀ i, i < l.length → isDone listed i := fun listed hsz hr i => by
  induction i using Nat.strongRecOn with
  | _ i ih =>
   intro hi
   apply Classical.byContradiction
   intro hnd
   have hlt : i < ops.size := by omega
   have hlb : listed[i]? = some false := by
    have : listed[i]? = some (listed[i]'(by omega)) := Array.getElem?_eq_getElem _
    cases hb : listed[i]'(by omega) with
    | false => rw [this, hb]
    | true => exact absurd (by unfold isDone; rw [this, hb]) hnd
   have hin : i ∈ Region.ready .any ops listed := by
    unfold Region.ready
    refine List.mem_filter.2 ⟨List.mem_range.2 hlt, ?_⟩
    have ho : ops[i]? = some (ops[i]'hlt) := Array.getElem?_eq_getElem _
    have hb : listed.getD i true = false := by simp [Array.getD_eq_getD_getElem?, hlb]
    rw [ho, hb]
    simp only [Bool.not_false, Option.map_some, Option.getD_some, Bool.true_and]
    rw [← Array.all_toList]
    refine List.all_eq_true.2 fun e he => ?_
    cases hbe : Region.binds .any e with
    | false => rfl
    | true =>
     have hon := Wi hshape ho e he hbe
     have := ih e.on hon (by omega)
     unfold isDone at this
     simp [Array.getD_eq_getD_getElem?, this]
   rw [hr] at hin
   cases hin
 intro fuel
 induction fuel with
 | zero =>
  intro listed a w m J hsz hleft hdown h
  have hall : ∀ i, i < l.length → isDone listed i := fun i hi => by
   have hlt : i < listed.size := by omega
   unfold left at hleft
   have hz : listed.toList.countP (· == false) = 0 := by omega
   have hb := List.countP_eq_zero.1 hz (listed[i]'hlt) (by simp)
   unfold isDone
   rw [Array.getElem?_eq_getElem hlt]
   cases hbv : listed[i]'hlt with
   | true => rfl
   | false => rw [hbv] at hb; simp at hb
  refine ⟨?_, hQ a w m J _ (iG hsz) hall h⟩
  unfold Region.ready
  refine List.filter_eq_nil_iff.2 fun i hi => ?_
  have := hall i (by rw [iF]; exact List.mem_range.1 hi)
  unfold isDone at this
  simp [Array.getD_eq_getD_getElem?, this]
 | succ fuel ih =>
  intro listed a w m J hsz hleft hdown h
  refine ⟨fun hr => hQ a w m J _ (iG hsz) (stop listed hsz hr) h, fun i hi => ?_⟩
  unfold Region.ready at hi
  obtain ⟨hi1, hi2⟩ := List.mem_filter.1 hi
  have hlt : i < ops.size := List.mem_range.1 hi1
  have ho : ops[i]? = some (ops[i]'hlt) := Array.getElem?_eq_getElem _
  rw [ho] at hi2
  simp only [Bool.and_eq_true, Bool.not_eq_true', Option.map_some, Option.getD_some] at hi2
  have hlb : listed[i]? = some false := by
   have : listed[i]? = some (listed[i]'(by omega)) := Array.getElem?_eq_getElem _
   rw [this]
   have h2 := hi2.1
   simp only [Array.getD_eq_getD_getElem?, this, Option.getD_some] at h2
   rw [h2]
  have hnd : ¬ isDone listed i := fun hd => by unfold isDone at hd; rw [hlb] at hd; cases hd
  have hedge : ∀ e ∈ (ops[i]'hlt).after.toList, binds e = true → isDone listed e.on := fun e he hb => by
   have h2 := hi2.2
   rw [← Array.all_toList] at h2
   have := List.all_eq_true.1 h2 e he
   unfold binds at hb
   rw [hb] at this
   simp only [Bool.not_true, Bool.false_or] at this
   unfold isDone
   cases hl : listed[e.on]? with
   | none => simp [Array.getD_eq_getD_getElem?, hl] at this
   | some b => simp [Array.getD_eq_getD_getElem?, hl] at this; rw [this]
  have hrd : ∀ k, ((ahead ops).getD i 0).testBit k = true → isDone listed k := fun k hk => by
   obtain ⟨e, he, hb, hor⟩ := VK ops i _ ho k hk
   rcases hor with rfl | hor
   · exact hedge e he hb
   · exact hdown k e.on (hedge e he hb) hor
  obtain ⟨o, hol⟩ : ∃ o, l[i]? = some o := ⟨l[i]'(by omega), List.getElem?_eq_getElem _⟩
  have hfun : (fun j => isDone listed j ∨ j = i) = isDone (listed.setIfInBounds i true) := by
   funext j
   apply propext
   unfold isDone
   by_cases e : j = i
   · subst e
     have : j < listed.size := by omega
     simp [this]
   · rw [Array.getElem?_setIfInBounds_ne (Ne.symm e)]
     simp [e]
  refine ZA hX hS hF PO ht hchk h hE hR0 hnt (iG hsz) hdown hol hnd hrd fun J' m' a' w' hI => ?_
  rw [hfun] at hI
  refine ih _ a' w' m' J' (by simpa using hsz) (by have := iD hlb; omega) ?_ hI
  intro k j hj hk
  rw [← hfun] at hj ⊢
  rcases hj with hj | rfl
  · exact .inl (hdown k j hj hk)
  · exact .inl (hrd k hk)
theorem Wj {s : AA} {w : World} {a : Act} {m : Map} (hX : Good X T) (hS : Gx X self) (hF : Fen F inR) {id : Nat} {β : Type} {Qr : β → Prop} {K : Kt β}
 (hok : DR X.P X.G X.TA X.TK nt inR (.Dl l rds) (.region id ops true) = true) (h : (xRegD T self l rds env s K).all Qr) (hst : St X nt B m env s a w)
 (hQ : ∀ env' s' a' w' m', (K .normal env' s').all Qr → St X nt B m' env' s' a' w' → Step m s w m' s' w' → Q .normal a' w') : (Code.region id ops true).wpIn F n X.P Q a w := by
 have hok' : (EX X.P X.G X.TA X.TK nt ops (l.map (·.1)) ops.toList && Oa ops l rds && J7 ops) = true := hok
 simp only [Bool.and_eq_true] at hok'
 obtain ⟨⟨h1, h2⟩, h3⟩ := hok'
 obtain ⟨rs, env', s', S, E, V, ht, hk⟩ := KY l env s [] _ h
 simp only [List.append_nil, List.reverse_reverse] at hk
 have hk' : J4 rs s' l rds = true ∧ (K .normal env' s').all Qr := by
  cases hc : J4 rs s' l rds with
  | false => rw [hc] at hk; exact hk.elim
  | true => rw [hc] at hk; exact ⟨rfl, hk⟩
 have PO := reg_of h1 h2 h3
 have hR0 : Rl X m (S 0) { w with drawn := w.drawn + 1 } := by rw [ht.s0]; exact hst.rl.drawn _
 refine wpIn_region_any hX.mixed ?_
 have hi0 : ∀ j, ¬ isDone (Array.replicate ops.size false) j := fun j hj => by
  unfold isDone at hj
  obtain ⟨h1, h2⟩ := Array.getElem?_eq_some_iff.1 hj
  simp at h2
 refine iE hX hS hF PO h3 ht hk'.1 hst.env hR0 hst.sz ?_ ops.size (Array.replicate ops.size false) a _ m 0 (by simp) ?_ (fun k j hj => absurd hj (hi0 j)) ?_
 · intro a' w' m' J done hdl hall hI
   obtain ⟨g1, g2⟩ := hI.finish ht hst.env hR0 hdl hall hst.sz (hst.marks.step (Step.drawn m s w _)) hst.low
   rw [ht.sn, ht.en] at g1
   rw [ht.sn, ht.s0] at g2
   exact hQ env' s' a' w' _ hk'.2 g1 ((Step.drawn m s w _).trans g2)
 · unfold left
   exact Nat.le_trans List.countP_le_length (by simp)
 · have : isDone (Array.replicate ops.size false) = fun _ => False := funext fun j => propext ⟨fun h => hi0 j h, fun h => h.elim⟩
   rw [this]
   exact Inv.start ht hR0
end
end Go.Im

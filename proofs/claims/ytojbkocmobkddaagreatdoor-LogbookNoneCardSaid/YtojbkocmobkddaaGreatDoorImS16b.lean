/- The ideal machine: regions that draw their order (2): what holds when a set of the operations is done. -/
import Derived.Test.YtojbkocmobkddaaGreatDoorImS16
namespace Go.Im

def Map.to (m : Map) (k : Nat) : Map := fun b => if b < k then m b else none
theorem Map.to_some {m : Map} {k b : Nat} {p : Place} (h : (m.to k) b = some p) : m b = some p ∧ b < k := by
  unfold Map.to at h
  split at h
  · next hb => exact ⟨h, hb⟩
  · simp at h
theorem Map.to_of {m : Map} {k b : Nat} {p : Place} (h : m b = some p) (hb : b < k) : (m.to k) b = some p := by
  unfold Map.to; rw [if_pos hb]; exact h
theorem Map.to_le (m : Map) (k : Nat) : (m.to k).le m := fun _ _ h => (Map.to_some h).1
theorem Map.to_mono {m m' : Map} {k k' : Nat} (h : m.le m') (hk : k ≤ k') : (m.to k).le (m'.to k') := fun b p hb => by
  obtain ⟨h1, h2⟩ := Map.to_some hb
  exact Map.to_of (h b p h1) (by omega)

section
variable {X : Cx} {T : MT} {self : Self} {env : Env} {s : IState} {l : List (IOper × List Nat)} {rs : List Rec} {env' : Env} {s' : IState} {S : Nat → IState} {E : Nat → Env} {V : Nat → Value}

structure Inv (X : Cx) (l : List (IOper × List Nat)) (S : Nat → IState) (V : Nat → Value) (m0 : Map) (w0 : World) (a0 : Act) (done : Nat → Prop) (J : Nat) (m : Map) (a : Act) (w : World) : Prop where
  jle : J ≤ l.length
  wr : ∀ i o, l[i]? = some o → isWr o.1.op = true → (done i ↔ i < J)
  jl : J = 0 ∨ ∃ o, l[J - 1]? = some o ∧ isWr o.1.op = true
  own : ∀ b p, m b = some p → b < (S 0).nx ∨ ∃ i, done i ∧ i < l.length ∧ (S i).nx ≤ b ∧ b < (S (i + 1)).nx
  objJ : ∀ b p o, m b = some p → b < (S J).nx → (S J).get b = some o → ∃ o', w.heap[p.blk]? = some o' ∧ ORel X (m.to (S J).nx) p o o'
  objA : ∀ b p i o, m b = some p → J ≤ i → i < l.length → (S i).nx ≤ b → b < (S (i + 1)).nx → (S (i + 1)).get b = some o → ∃ o', w.heap[p.blk]? = some o' ∧ ORel X (m.to (S (i + 1)).nx) p o o'
  inj : ∀ b b' p p' o o', m b = some p → m b' = some p' → b < (S J).nx → b' < (S J).nx → (S J).get b = some o → (S J).get b' = some o' → o.turns = true → o' ≠ .dead → p.blk = p'.blk → b = b'
  lone : ∀ b p b' p', m b = some p → (S J).nx ≤ b → m b' = some p' → b' ≠ b → p'.blk ≠ p.blk
  rng : ∀ b p, m b = some p → p.blk < w.heap.size
  glob : GRel X.G m
  slots : ∀ i o d, l[i]? = some o → o.1.dst = some d → done i → ∃ v', a.tmps[d]? = some v' ∧ VRel (m.to (S (max (i + 1) J)).nx) (V i) v'
  rest : ∀ t : Nat, (∀ i o, l[i]? = some o → o.1.dst = some t → ¬ done i) → a.tmps[t]? = a0.tmps[t]?
  sz : a.tmps.size = a0.tmps.size
  defers : a.defers = a0.defers
  le : m0.le m
  size : w0.heap.size ≤ w.heap.size
  os : w.os = w0.os
  tape : w.tape = w0.tape
  output : w.output = w0.output
  frame : ∀ k, k < w0.heap.size → ¬ Turned m0 (S 0) k → w.heap[k]? = w0.heap[k]?
  turnJ : ∀ b p o, m b = some p → b < (S J).nx → (S J).get b = some o → o.turns = true → p.blk < w0.heap.size → Turned m0 (S 0) p.blk
  newA : ∀ b p, m b = some p → (S J).nx ≤ b → w0.heap.size ≤ p.blk
  rngm : ∀ b p, m b = some p → p.blk < w0.heap.size → ∃ b0 p0, m0 b0 = some p0 ∧ p0.blk = p.blk
  newd : ∀ b p, m b = some p → b < (S 0).nx → m0 b = some p

variable {m0 : Map} {w0 : World} {a0 : Act}

theorem Inv.start (ht : Trace T self l env s rs env' s' S E V) (hR : Rl X m0 (S 0) w0) : Inv X l S V m0 w0 a0 (fun _ => False) 0 m0 a0 w0 where
  jle := Nat.zero_le _
  wr := fun i o _ _ => ⟨fun h => h.elim, fun h => by omega⟩
  jl := .inl rfl
  own := fun b p h => .inl (hR.rng b p h).2
  objJ := fun b p o hb hlt ho => by
    obtain ⟨o', h1, h2⟩ := hR.obj b p o hb ho
    exact ⟨o', h1, h2.mono fun b p h => Map.to_of h (hR.rng b p h).2⟩
  objA := fun b p i o hb _ hil hi _ _ => by
    have h1 := ht.nx_mono (Nat.zero_le i) (Nat.le_of_lt hil)
    have h2 := (hR.rng b p hb).2
    omega
  inj := fun b b' p p' o o' h1 h2 _ _ h3 h4 h5 h6 h7 => hR.inj b b' p p' o o' h1 h2 h3 h4 h5 h6 h7
  lone := fun b p b' p' hb hlt _ _ => by have := (hR.rng b p hb).2; omega
  rng := fun b p hb => (hR.rng b p hb).1
  glob := hR.glob
  slots := fun i o d _ _ h => h.elim
  rest := fun _ _ => rfl
  sz := rfl
  defers := rfl
  le := m0.le_refl
  size := Nat.le_refl _
  os := rfl
  tape := rfl
  output := rfl
  frame := fun _ _ _ => rfl
  turnJ := fun b p o hb _ ho ht _ => ⟨b, p, o, hb, ho, ht, rfl⟩
  newA := fun b p hb hlt => by have := (hR.rng b p hb).2; omega
  rngm := fun b p hb _ => ⟨b, p, hb, rfl⟩
  newd := fun b p hb _ => hb

theorem Inv.fixTo (ht : Trace T self l env s rs env' s' S E V) {done : Nat → Prop} {J : Nat} {m : Map} {a : Act} {w : World} (h : Inv X l S V m0 w0 a0 done J m a w) (hR0 : Rl X m0 (S 0) w0) (i : Nat) : Fix X (m.to (S i).nx) w := by
  refine hR0.fix.frame (fun x hx => h.frame _ (hR0.fix.lt hx) ?_) ?_
  · rintro ⟨b, p, o, hb, _, _, e⟩
    exact (hR0.fix x hx).2 b p hb e
  · intro b p hb
    rcases Nat.lt_or_ge p.blk w0.heap.size with g | g
    · exact .inl (h.rngm b p (Map.to_some hb).1 g)
    · exact .inr g

/-- The memory as it stands, by the ideal state k, where there is no writer between J and k. -/
theorem Inv.at (ht : Trace T self l env s rs env' s' S E V) {done : Nat → Prop} {J : Nat} {m : Map} {a : Act} {w : World} (h : Inv X l S V m0 w0 a0 done J m a w) (hdl : ∀ i, done i → i < l.length) {k : Nat} (hJk : J ≤ k) (hk : k ≤ l.length)
    (hno : ∀ i o, J ≤ i → i < k → l[i]? = some o → isWr o.1.op = false) (hR0 : Rl X m0 (S 0) w0) : Rl X (m.to (S k).nx) (S k) w := by
  have hJn := ht.nx_mono hJk hk
  have cur : ∀ b p o, m b = some p → b < (S k).nx → (S k).get b = some o → (b < (S J).nx ∧ (S J).get b = some o) ∨ (∃ i, J ≤ i ∧ i < k ∧ (S i).nx ≤ b ∧ b < (S (i + 1)).nx ∧ (S (i + 1)).get b = some o) := by
    intro b p o hb hlt ho
    by_cases e : b < (S J).nx
    · exact .inl ⟨e, by rw [← ht.keeps hJk hk hno b e]; exact ho⟩
    · right
      rcases h.own b p hb with h1 | ⟨i, h1, h2, h3, h4⟩
      · have := ht.nx_mono (Nat.zero_le J) h.jle
        omega
      · have hiJ : J ≤ i := by
          rcases Nat.lt_or_ge i J with g | g
          · have := ht.nx_mono (show i + 1 ≤ J by omega) h.jle
            omega
          · exact g
        have hik : i < k := by
          rcases Nat.lt_or_ge i k with g | g
          · exact g
          · have := ht.nx_mono g (by omega)
            omega
        refine ⟨i, hiJ, hik, h3, h4, ?_⟩
        rw [← ht.keeps (j := i + 1) (k := k) (by omega) hk (fun i' o' h5 h6 h7 => hno i' o' (by omega) h6 h7) b h4]
        exact ho
  refine ⟨?_, ?_, ?_, ?_, h.fixTo ht hR0 k⟩
  · intro b p o hb ho
    obtain ⟨hb, hlt⟩ := Map.to_some hb
    rcases cur b p o hb hlt ho with ⟨h1, h2⟩ | ⟨i, h1, h2, h3, h4, h5⟩
    · obtain ⟨o', g1, g2⟩ := h.objJ b p o hb h1 h2
      exact ⟨o', g1, g2.mono (Map.to_mono m.le_refl hJn)⟩
    · obtain ⟨o', g1, g2⟩ := h.objA b p i o hb h1 (by omega) h3 h4 h5
      exact ⟨o', g1, g2.mono (Map.to_mono m.le_refl (ht.nx_mono (by omega) hk))⟩
  · intro b p hb
    obtain ⟨hb, hlt⟩ := Map.to_some hb
    exact ⟨h.rng b p hb, hlt⟩
  · intro b b' p p' o o' hb hb' ho ho' hd hd' he
    obtain ⟨hb, hlt⟩ := Map.to_some hb
    obtain ⟨hb', hlt'⟩ := Map.to_some hb'
    by_cases e : b = b'
    · exact e
    · rcases cur b p o hb hlt ho with ⟨h1, h2⟩ | ⟨i, h1, h2, h3, _⟩
      · rcases cur b' p' o' hb' hlt' ho' with ⟨h1', h2'⟩ | ⟨i', h1', h2', h3', _⟩
        · exact h.inj b b' p p' o o' hb hb' h1 h1' h2 h2' hd hd' he
        · exact absurd he (h.lone b' p' b p hb' (Nat.le_trans (ht.nx_mono h1' (by omega)) h3') hb e)
      · exact absurd he.symm (h.lone b p b' p' hb (Nat.le_trans (ht.nx_mono h1 (by omega)) h3) hb' (Ne.symm e))
  · intro g hg
    obtain ⟨p, h1, h2⟩ := hR0.glob g hg
    have hlt := (hR0.rng g p h1).2
    exact ⟨p, Map.to_of (h.le g p h1) (Nat.lt_of_lt_of_le hlt (ht.nx_mono (Nat.zero_le k) hk)), h2⟩

/-- What an operation sees of the slots. -/
theorem Inv.envAt (ht : Trace T self l env s rs env' s' S E V) {done : Nat → Prop} {J : Nat} {m : Map} {a : Act} {w : World} (h : Inv X l S V m0 w0 a0 done J m a w) (hE : EnvRel m0 env a0.tmps) (hR0 : Rl X m0 (S 0) w0) {i : Nat} {o : IOper × List Nat} (hi : l[i]? = some o) (hnd : ¬ done i)
    (hap : ∀ j u d, l[j]? = some u → j ≠ i → u.1.dst = some d → d ∈ o.2 → (j < i → done j) ∧ (i < j → ¬ done j)) : EnvRel (m.to (S (max i J)).nx) (Env.keep (E i) o.2) a.tmps := by
  have hJl := h.jle
  have hil : i < l.length := (List.getElem?_eq_some_iff.1 hi).1
  intro t v hv
  obtain ⟨hk, hv⟩ := keep_get hv
  rcases ht.env_get i (Nat.le_of_lt hil) t v hv with ⟨j, u, h1, h2, h3, rfl⟩ | ⟨h1, h2⟩
  · obtain ⟨v', g1, g2⟩ := h.slots j u t h2 h3 ((hap j u t h2 (by omega) h3 hk).1 h1)
    exact ⟨v', g1, g2.mono (Map.to_mono m.le_refl (ht.nx_mono (by omega) (by omega)))⟩
  · obtain ⟨v', g1, g2⟩ := hE t v h2
    refine ⟨v', ?_, g2.mono ?_⟩
    · rw [h.rest t fun j u hj hd hdone => ?_]
      · exact g1
      · rcases Nat.lt_trichotomy j i with g | g | g
        · exact h1 j u g hj hd
        · subst g; exact hnd hdone
        · exact (hap j u t hj (by omega) hd hk).2 g hdone
    · intro b p hb
      exact Map.to_of (h.le b p hb) (Nat.lt_of_lt_of_le (hR0.rng b p hb).2 (ht.nx_mono (Nat.zero_le _) (by omega)))

section steps
variable {done : Nat → Prop} {J : Nat} {m : Map} {a : Act} {w : World} {i : Nat} {o : IOper × List Nat}

theorem slots_put (ht : Trace T self l env s rs env' s' S E V) {m' : Map} {J' : Nat} (hJ : J ≤ J') (hJl : J' ≤ l.length) (hs : ∀ i o d, l[i]? = some o → o.1.dst = some d → done i → ∃ v', a.tmps[d]? = some v' ∧ VRel (m.to (S (max (i + 1) J)).nx) (V i) v') (hm : m.le m') (hi : l[i]? = some o) (hnd : ¬ done i)
    (huniq : ∀ j u d, l[j]? = some u → j ≠ i → u.1.dst = some d → o.1.dst ≠ some d) (hlt : ∀ d, o.1.dst = some d → d < a.tmps.size) {v' : Value} (hv : VRel (m'.to (S (max (i + 1) J')).nx) (V i) v') :
    ∀ j u d, l[j]? = some u → u.1.dst = some d → (done j ∨ j = i) → ∃ v'', (a.put o.1.dst v').tmps[d]? = some v'' ∧ VRel (m'.to (S (max (j + 1) J')).nx) (V j) v'' := by
  intro j u d hj hd hdone
  by_cases e : j = i
  · subst e
    obtain rfl := Option.some.inj (hj.symm.trans hi)
    refine ⟨v', ?_, hv⟩
    rw [hd]
    have := hlt d hd
    simp [Act.put, this]
  · rcases hdone with hdone | hdone
    · obtain ⟨v'', g1, g2⟩ := hs j u d hj hd hdone
      have hjl : j < l.length := (List.getElem?_eq_some_iff.1 hj).1
      refine ⟨v'', ?_, g2.mono (Map.to_mono hm (ht.nx_mono (by omega) (by omega)))⟩
      have hne := huniq j u d hj e hd
      cases hod : o.1.dst with
      | none => exact g1
      | some d' =>
        rw [hod] at hne
        simp only [Act.put]
        rw [Array.getElem?_setIfInBounds_ne (fun ee => hne (by rw [ee]))]
        exact g1
    · exact absurd hdone e
theorem rest_put (hr : ∀ t : Nat, (∀ i o, l[i]? = some o → o.1.dst = some t → ¬ done i) → a.tmps[t]? = a0.tmps[t]?) (hi : l[i]? = some o) {v' : Value} :
    ∀ t : Nat, (∀ j u, l[j]? = some u → u.1.dst = some t → ¬ (done j ∨ j = i)) → (a.put o.1.dst v').tmps[t]? = a0.tmps[t]? := by
  intro t h
  rw [← hr t fun j u hj hd hdone => h j u hj hd (.inl hdone)]
  cases hod : o.1.dst with
  | none => rfl
  | some d =>
    simp only [Act.put]
    rw [Array.getElem?_setIfInBounds_ne fun e => ?_]
    subst e
    exact h i o hi hod (.inr rfl)

/-- An operation that leaves the memory as it is. -/
theorem Inv.idle (ht : Trace T self l env s rs env' s' S E V) (h : Inv X l S V m0 w0 a0 done J m a w) (hi : l[i]? = some o) (hnd : ¬ done i) (hnw : isWr o.1.op = false) (huniq : ∀ j u d, l[j]? = some u → j ≠ i → u.1.dst = some d → o.1.dst ≠ some d)
    (hlt : ∀ d, o.1.dst = some d → d < a.tmps.size) {v' : Value} (hv : VRel (m.to (S (max (i + 1) J)).nx) (V i) v') : Inv X l S V m0 w0 a0 (fun j => done j ∨ j = i) J m (a.put o.1.dst v') w :=
  { h with
    wr := fun j u hj hw => by
      rw [← h.wr j u hj hw]
      refine ⟨fun hd => ?_, .inl⟩
      rcases hd with hd | rfl
      · exact hd
      · obtain rfl := Option.some.inj (hj.symm.trans hi)
        rw [hnw] at hw; cases hw
    own := fun b p hb => by
      rcases h.own b p hb with h1 | ⟨k, h1, h2⟩
      · exact .inl h1
      · exact .inr ⟨k, .inl h1, h2⟩
    slots := slots_put ht (Nat.le_refl J) h.jle h.slots m.le_refl hi hnd huniq hlt hv
    rest := rest_put h.rest hi
    sz := by rw [put_size]; exact h.sz
    defers := by rw [put_defers]; exact h.defers }

/-- A writer: all writers ahead of it in the text are done, none behind it. -/
theorem Inv.write (ht : Trace T self l env s rs env' s' S E V) (h : Inv X l S V m0 w0 a0 done J m a w) (hi : l[i]? = some o) (hnd : ¬ done i) (hw : isWr o.1.op = true) (hJi : J ≤ i)
    (hno : ∀ k u, J ≤ k → k < i → l[k]? = some u → isWr u.1.op = false) (huniq : ∀ j u d, l[j]? = some u → j ≠ i → u.1.dst = some d → o.1.dst ≠ some d)
    (hlt : ∀ d, o.1.dst = some d → d < a.tmps.size) {v' : Value} {w' : World} (hd : Did X (m.to (S i).nx) (S i) w (V i) (S (i + 1)) v' w') :
    ∃ m', Inv X l S V m0 w0 a0 (fun j => done j ∨ j = i) (i + 1) m' (a.put o.1.dst v') w' := by
  obtain ⟨m1, hR1, hS1, hv1⟩ := hd.ex
  have hil : i < l.length := (List.getElem?_eq_some_iff.1 hi).1
  have hstep := (ht.step i o hi).2.1
  have hJn := ht.nx_mono hJi (Nat.le_of_lt hil)
  have h0n := ht.nx_mono (Nat.zero_le i) (Nat.le_of_lt hil)
  obtain ⟨m2, hm2⟩ : ∃ m2 : Map, m2 = fun b => if b < (S (i + 1)).nx then m1 b else m b := ⟨_, rfl⟩
  have lo : ∀ b, b < (S (i + 1)).nx → m2 b = m1 b := fun b hb => by rw [hm2]; exact if_pos hb
  have hi2 : ∀ b, (S (i + 1)).nx ≤ b → m2 b = m b := fun b hb => by rw [hm2]; exact if_neg (by omega)
  have hm12 : m1.le (m2.to (S (i + 1)).nx) := fun b p hb => by
    have hlt := (hR1.rng b p hb).2
    exact Map.to_of (by rw [lo b hlt]; exact hb) hlt
  have hle : m.le m2 := fun b p hb => by
    by_cases e : b < (S (i + 1)).nx
    · rw [lo b e]
      by_cases e2 : b < (S i).nx
      · exact hS1.le b p (Map.to_of hb e2)
      · rcases h.own b p hb with h1 | ⟨k, h1, h2, h3, h4⟩
        · omega
        · rcases Nat.lt_trichotomy k i with g | g | g
          · have := ht.nx_mono (i := k + 1) (j := i) g (Nat.le_of_lt hil); omega
          · subst g; exact absurd h1 hnd
          · have := ht.nx_mono (i := i + 1) (j := k) g (Nat.le_of_lt h2); omega
    · rw [hi2 b (by omega)]; exact hb
  have turn : ∀ k, k < w0.heap.size → Turned (m.to (S i).nx) (S i) k → Turned m0 (S 0) k := by
    rintro k hk ⟨b, p, ob, hb, ho, htn, rfl⟩
    obtain ⟨hb, hbl⟩ := Map.to_some hb
    by_cases e : b < (S J).nx
    · exact h.turnJ b p ob hb e (by rw [← ht.keeps hJi (Nat.le_of_lt hil) hno b e]; exact ho) htn hk
    · have := h.newA b p hb (by omega)
      omega
  refine ⟨m2, ?_⟩
  refine { jle := hil, wr := ?_, jl := .inr ⟨o, hi, hw⟩, own := ?_, objJ := ?_, objA := ?_, inj := ?_, lone := ?_, rng := ?_, glob := ?_, slots := slots_put ht (show J ≤ i + 1 by omega) hil h.slots hle hi hnd huniq hlt (by rw [Nat.max_self]; exact hv1.mono hm12), rest := rest_put h.rest hi, sz := by rw [put_size]; exact h.sz, defers := by rw [put_defers]; exact h.defers, le := Map.le_trans h.le hle, size := Nat.le_trans h.size hS1.size, os := hS1.os.trans h.os, tape := hS1.tape.trans h.tape, output := hS1.output.trans h.output, frame := ?_, turnJ := ?_, newA := ?_, rngm := ?_, newd := ?_ }
  · intro j u hj hwj
    constructor
    · rintro (hdj | rfl)
      · have := (h.wr j u hj hwj).1 hdj; omega
      · omega
    · intro hlt
      by_cases e : j = i
      · exact .inr e
      · left
        rw [h.wr j u hj hwj]
        rcases Nat.lt_or_ge j J with g | g
        · exact g
        · rw [hno j u g (by omega) hj] at hwj; cases hwj
  · intro b p hb
    by_cases e : b < (S (i + 1)).nx
    · rw [lo b e] at hb
      by_cases e2 : b < (S i).nx
      · rcases h.own b p (Map.to_some (hS1.newd b p hb e2)).1 with h1 | ⟨k, h1, h2⟩
        · exact .inl h1
        · exact .inr ⟨k, .inl h1, h2⟩
      · exact .inr ⟨i, .inr rfl, hil, by omega, e⟩
    · rw [hi2 b (by omega)] at hb
      rcases h.own b p hb with h1 | ⟨k, h1, h2⟩
      · exact .inl h1
      · exact .inr ⟨k, .inl h1, h2⟩
  · intro b p ob hb hbl ho
    rw [lo b hbl] at hb
    obtain ⟨o', g1, g2⟩ := hR1.obj b p ob hb ho
    exact ⟨o', g1, g2.mono hm12⟩
  · intro b p k ob hb hk hkl hkb hbk ho
    have hbi : (S (i + 1)).nx ≤ b := Nat.le_trans (ht.nx_mono hk (Nat.le_of_lt hkl)) hkb
    rw [hi2 b hbi] at hb
    obtain ⟨o', g1, g2⟩ := h.objA b p k ob hb (by omega) hkl hkb hbk ho
    refine ⟨o', ?_, g2.mono (Map.to_mono hle (Nat.le_refl _))⟩
    rw [hS1.frame p.blk (h.rng b p hb)]
    · exact g1
    · rintro ⟨b1, p1, o1, hb1, _, _, e⟩
      obtain ⟨hb1, hb1l⟩ := Map.to_some hb1
      exact h.lone b p b1 p1 hb (by omega) hb1 (by omega) e
  · intro b b' p p' ob ob' hb hb' hbl hbl' ho ho' hd hd' he
    rw [lo b hbl] at hb
    rw [lo b' hbl'] at hb'
    exact hR1.inj b b' p p' ob ob' hb hb' ho ho' hd hd' he
  · intro b p b' p' hb hbi hb' hne
    rw [hi2 b hbi] at hb
    by_cases e : b' < (S (i + 1)).nx
    · rw [lo b' e] at hb'
      rcases Nat.lt_or_ge p'.blk w.heap.size with g | g
      · obtain ⟨b0, p0, g1, g2⟩ := hS1.rngm b' p' hb' g
        obtain ⟨g1, g3⟩ := Map.to_some g1
        have := h.lone b p b0 p0 hb (by omega) g1 (by omega)
        omega
      · have := h.rng b p hb
        omega
    · rw [hi2 b' (by omega)] at hb'
      exact h.lone b p b' p' hb (by omega) hb' hne
  · intro b p hb
    by_cases e : b < (S (i + 1)).nx
    · rw [lo b e] at hb
      exact (hR1.rng b p hb).1
    · rw [hi2 b (by omega)] at hb
      exact Nat.lt_of_lt_of_le (h.rng b p hb) hS1.size
  · intro g hg
    obtain ⟨p, h1, h2⟩ := h.glob g hg
    exact ⟨p, hle g p h1, h2⟩
  · intro k hk hnt
    rw [hS1.frame k (Nat.lt_of_lt_of_le hk h.size) fun htn => hnt (turn k hk htn)]
    exact h.frame k hk hnt
  · intro b p ob hb hbl ho htn hk
    rw [lo b hbl] at hb
    exact turn _ hk (hS1.turned _ (Nat.lt_of_lt_of_le hk h.size) ⟨b, p, ob, hb, ho, htn, rfl⟩)
  · intro b p hb hbi
    rw [hi2 b hbi] at hb
    exact h.newA b p hb (by omega)
  · intro b p hb hk
    by_cases e : b < (S (i + 1)).nx
    · rw [lo b e] at hb
      obtain ⟨b0, p0, g1, g2⟩ := hS1.rngm b p hb (Nat.lt_of_lt_of_le hk h.size)
      obtain ⟨b1, p1, g3, g4⟩ := h.rngm b0 p0 (Map.to_some g1).1 (by omega)
      exact ⟨b1, p1, g3, by omega⟩
    · rw [hi2 b (by omega)] at hb
      exact h.rngm b p hb hk
  · intro b p hb hbl
    rw [lo b (by omega)] at hb
    exact h.newd b p (Map.to_some (hS1.newd b p hb (by omega))).1 hbl

/-- An allocator. -/
theorem Inv.alloc (ht : Trace T self l env s rs env' s' S E V) (h : Inv X l S V m0 w0 a0 done J m a w) (hi : l[i]? = some o) (hnd : ¬ done i) (hnw : isWr o.1.op = false) (hJi : J ≤ i) (huniq : ∀ j u d, l[j]? = some u → j ≠ i → u.1.dst = some d → o.1.dst ≠ some d)
    (hlt : ∀ d, o.1.dst = some d → d < a.tmps.size) {obj : IObj} {f : Nat → Value} (hS : S (i + 1) = (S i).new obj) (hV : V i = f (S i).nx) {v' : Value} {w' : World} (hd : Laid X (m.to (S i).nx) ⟨.e, (S i).nx⟩ w obj f v' w') :
    ∃ m', Inv X l S V m0 w0 a0 (fun j => done j ∨ j = i) J m' (a.put o.1.dst v') w' := by
  obtain ⟨p, o', hp, hwh, hos, htp, hout, hrel, hval⟩ := hd.ex
  have hil : i < l.length := (List.getElem?_eq_some_iff.1 hi).1
  have hJn := ht.nx_mono hJi (Nat.le_of_lt hil)
  have h0n := ht.nx_mono (Nat.zero_le i) (Nat.le_of_lt hil)
  have hnx : (S (i + 1)).nx = (S i).nx + 1 := by rw [hS]; rfl
  have hnone : m (S i).nx = none := by
    cases hm : m (S i).nx with
    | none => rfl
    | some q =>
      rcases h.own _ q hm with h1 | ⟨k, h1, h2, h3, h4⟩
      · omega
      · rcases Nat.lt_trichotomy k i with g | g | g
        · have := ht.nx_mono (i := k + 1) (j := i) g (Nat.le_of_lt hil); omega
        · subst g; exact absurd h1 hnd
        · have := ht.nx_mono (i := i + 1) (j := k) g (Nat.le_of_lt h2); omega
  have hle : m.le (m.add (S i).nx p) := fun b q hb => by
    rw [Map.add_ne m p (fun e => by subst e; rw [hnone] at hb; cases hb)]; exact hb
  have hadd : ((m.to (S i).nx).add (S i).nx p).le ((m.add (S i).nx p).to (S (i + 1)).nx) := fun b q hb => by
    by_cases e : b = (S i).nx
    · subst e
      rw [Map.add_same] at hb
      obtain rfl := Option.some.inj hb
      exact Map.to_of (Map.add_same _ _ _) (by omega)
    · rw [Map.add_ne _ _ e] at hb
      obtain ⟨g1, g2⟩ := Map.to_some hb
      exact Map.to_of (hle b q g1) (by omega)
  have heap_old : ∀ k, k < w.heap.size → w'.heap[k]? = w.heap[k]? := fun k hk => by rw [hwh, Array.getElem?_push, if_neg (by omega)]
  have hsz : w'.heap.size = w.heap.size + 1 := by rw [hwh]; simp
  have split : ∀ b q, (m.add (S i).nx p) b = some q → (b = (S i).nx ∧ q = p) ∨ (b ≠ (S i).nx ∧ m b = some q) := fun b q hb => by
    by_cases e : b = (S i).nx
    · subst e
      rw [Map.add_same] at hb
      exact .inl ⟨rfl, (Option.some.inj hb).symm⟩
    · rw [Map.add_ne _ _ e] at hb
      exact .inr ⟨e, hb⟩
  refine ⟨m.add (S i).nx p, ?_⟩
  refine { jle := h.jle, wr := ?_, jl := h.jl, own := ?_, objJ := ?_, objA := ?_, inj := ?_, lone := ?_, rng := ?_, glob := ?_, slots := slots_put ht (Nat.le_refl J) h.jle h.slots hle hi hnd huniq hlt (by rw [hV, Nat.max_eq_left (by omega)]; exact hval.mono hadd), rest := rest_put h.rest hi, sz := by rw [put_size]; exact h.sz, defers := by rw [put_defers]; exact h.defers, le := Map.le_trans h.le hle, size := by have := h.size; omega, os := hos.trans h.os, tape := htp.trans h.tape, output := hout.trans h.output, frame := ?_, turnJ := ?_, newA := ?_, rngm := ?_, newd := ?_ }
  · intro j u hj hwj
    rw [← h.wr j u hj hwj]
    refine ⟨fun hd => ?_, .inl⟩
    rcases hd with hd | rfl
    · exact hd
    · obtain rfl := Option.some.inj (hj.symm.trans hi)
      rw [hnw] at hwj; cases hwj
  · intro b q hb
    rcases split b q hb with ⟨rfl, rfl⟩ | ⟨_, hb⟩
    · exact .inr ⟨i, .inr rfl, hil, Nat.le_refl _, by omega⟩
    · rcases h.own b q hb with h1 | ⟨k, h1, h2⟩
      · exact .inl h1
      · exact .inr ⟨k, .inl h1, h2⟩
  · intro b q ob hb hbl ho
    rcases split b q hb with ⟨rfl, rfl⟩ | ⟨_, hb⟩
    · omega
    · obtain ⟨o2, g1, g2⟩ := h.objJ b q ob hb hbl ho
      exact ⟨o2, by rw [heap_old _ (h.rng b q hb)]; exact g1, g2.mono (Map.to_mono hle (Nat.le_refl _))⟩
  · intro b q k ob hb hk hkl hkb hbk ho
    rcases split b q hb with ⟨rfl, rfl⟩ | ⟨_, hb⟩
    · have hki : k = i := by
        rcases Nat.lt_trichotomy k i with g | g | g
        · have := ht.nx_mono (i := k + 1) (j := i) g (Nat.le_of_lt hil); omega
        · exact g
        · have := ht.nx_mono (i := i + 1) (j := k) g (Nat.le_of_lt hkl); omega
      subst hki
      rw [hS, IState.get_new, if_pos rfl] at ho
      obtain rfl := Option.some.inj ho
      exact ⟨o', by rw [hwh, hp]; simp, hrel.mono hadd⟩
    · obtain ⟨o2, g1, g2⟩ := h.objA b q k ob hb hk hkl hkb hbk ho
      exact ⟨o2, by rw [heap_old _ (h.rng b q hb)]; exact g1, g2.mono (Map.to_mono hle (Nat.le_refl _))⟩
  · intro b b' q q' ob ob' hb hb' hbl hbl' ho ho' hd hd' he
    rcases split b q hb with ⟨rfl, rfl⟩ | ⟨_, hb⟩
    · omega
    · rcases split b' q' hb' with ⟨rfl, rfl⟩ | ⟨_, hb'⟩
      · omega
      · exact h.inj b b' q q' ob ob' hb hb' hbl hbl' ho ho' hd hd' he
  · intro b q b' q' hb hbi hb' hne
    rcases split b q hb with ⟨rfl, rfl⟩ | ⟨_, hb2⟩
    · rcases split b' q' hb' with ⟨rfl, rfl⟩ | ⟨_, hb'⟩
      · exact absurd rfl hne
      · have := h.rng b' q' hb'; omega
    · rcases split b' q' hb' with ⟨rfl, rfl⟩ | ⟨_, hb'⟩
      · have := h.rng b q hb2; omega
      · exact h.lone b q b' q' hb2 hbi hb' hne
  · intro b q hb
    rcases split b q hb with ⟨rfl, rfl⟩ | ⟨_, hb⟩
    · omega
    · have := h.rng b q hb; omega
  · intro g hg
    obtain ⟨q, h1, h2⟩ := h.glob g hg
    exact ⟨q, hle g q h1, h2⟩
  · intro k hk hnt
    rw [heap_old k (Nat.lt_of_lt_of_le hk h.size)]
    exact h.frame k hk hnt
  · intro b q ob hb hbl ho htn hk
    rcases split b q hb with ⟨rfl, rfl⟩ | ⟨_, hb⟩
    · omega
    · exact h.turnJ b q ob hb hbl ho htn hk
  · intro b q hb hbi
    rcases split b q hb with ⟨rfl, rfl⟩ | ⟨_, hb⟩
    · have := h.size; omega
    · exact h.newA b q hb hbi
  · intro b q hb hk
    rcases split b q hb with ⟨rfl, rfl⟩ | ⟨_, hb⟩
    · have := h.size; omega
    · exact h.rngm b q hb hk
  · intro b q hb hbl
    rcases split b q hb with ⟨rfl, rfl⟩ | ⟨_, hb⟩
    · omega
    · exact h.newd b q hb hbl
end steps
end
end Go.Im

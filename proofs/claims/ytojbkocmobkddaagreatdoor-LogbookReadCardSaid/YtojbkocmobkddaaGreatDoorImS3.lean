/- The ideal machine: its memory and the model's; what a step may do. -/
import Derived.Test.YtojbkocmobkddaaGreatDoorImS2
import Derived.RangeFuncRecord
set_option linter.all false
namespace Go.Im
def CB (m : Map) (env : Env) (tmps : Array Value) : Prop := ∀ i v, env.get i = some v → ∃ v', tmps[i]? = some v' ∧ BH m v v'
theorem CB.mono {m m' : Map} (hm : m.le m') {env : Env} {tmps : Array Value} (h : CB m env tmps) : CB m' env tmps :=
 fun i v hi => let ⟨v', a, b⟩ := h i v hi; ⟨v', a, b.mono hm⟩
theorem CB.empty (m : Map) (tmps : Array Value) : CB m .e tmps := fun i v h => by simp at h
theorem CB.set {m : Map} {env : Env} {tmps : Array Value} (h : CB m env tmps) {d : Nat} {v v' : Value} (hv : BH m v v') (hd : d < tmps.size) :
 CB m (Tr.set env d v) (tmps.setIfInBounds d v') := by
 intro i u hu
 rw [Tr.get_set] at hu
 by_cases hi : i = d
 · subst hi
   rw [if_pos rfl] at hu
   obtain rfl := Option.some.inj hu
   exact ⟨v', by simp [hd], hv⟩
 · rw [if_neg hi] at hu
   obtain ⟨u', a, b⟩ := h i u hu
   exact ⟨u', by rw [Array.getElem?_setIfInBounds_ne (Ne.symm hi)]; exact a, b⟩
theorem CB.keep {m : Map} {env : Env} {tmps : Array Value} (h : CB m env tmps) : ∀ ks : List Nat, CB m (Env.keep env ks) tmps
 | [] => CB.empty m tmps
 | k :: l => by
  have ih := CB.keep h l
  unfold Env.keep
  cases hk : Tr.get env k with
  | none => exact ih
  | some v =>
   intro i u hu
   replace hu : ((Env.keep env l).set k v).get i = some u := hu
   rw [Tr.get_set] at hu
   by_cases hi : i = k
   · subst hi
     rw [if_pos rfl] at hu
     obtain rfl := Option.some.inj hu
     exact h _ _ hk
   · rw [if_neg hi] at hu
     exact ih i u hu
def YJ : Option Un → Option Code → Prop
 | none, none => True
 | some .ret, some .ret => True
 | some (.exit id), some (.exit id') => id = id'
 | _, _ => False
structure Cx where
 P : Program
 G : List Nat
 TA : List Nat
 TK : List Nat
 FX : List (Nat × (Array Value → Prop))
def RU (m : Map) : List (Value × Value × Nat) → List MapEntry → Prop
 | [], [] => True
 | (k, v, b) :: l, e :: l' => BH m k e.key ∧ BH m v e.val ∧ b = e.born ∧ RU m l l'
 | _, _ => False
inductive Gt (X : Cx) (m : Map) (p : Place) : CX → Obj → Prop
 | cells {c : List Value} {el : Nat} {wr : Bool} {c' : Array Value} {el' : Nat} {fr : Nat × Nat} (hel : isz X.P el = some p.esz) (hsz : p.sh + p.csz = c'.size) (hlen : c.length ≤ p.csz)
  (hc : ∀ (i : Nat) (v : Value), c[i]? = some v → ∃ v', c'[p.sh + i]? = some v' ∧ BH m v v')
  (hfr : wr = true → ∀ j : Nat, j < c'.size → (decide (fr.1 ≤ j) && decide (j < fr.2)) = false) : Gt X m p (.cells c el wr) (.cells c' el' fr)
 | iter (s : ByteArray) (pos : Nat) (h : p.sh = 0) : Gt X m p (.iter s pos) (.stringIter s pos)
 | mp {es : List (Value × Value × Nat)} {es' : List MapEntry} {c : Nat} (h : p.sh = 0) (he : RU m es es') : Gt X m p (.mp es c) (.map ⟨es'⟩ c)
 | loop {st : LoopState} {pd : Option Un} {env : Env} {ps : List Nat} {a b : AB} {pd' : Option Code} {f : Nat} {tmps : Array Value} {x y : Code} {d : Nat} (h : p.sh = 0)
  (hp : YJ pd pd') (he : CB m env tmps) (hps : ∀ t ∈ ps, t < tmps.size) (ha : DR X.P X.G X.TA X.TK tmps.size true a x = true) (hb : DR X.P X.G X.TA X.TK tmps.size true b y = true) :
  Gt X m p (.loop st pd env ps a b) (.loop { state := st, pending := pd', fn := f, tmps, params := ⟨ps⟩, assign := x, body := y, defers := d })
 | dead (o : Obj) : Gt X m p .dead o
theorem RU.mono {m m' : Map} (hm : m.le m') : ∀ {es : List (Value × Value × Nat)} {es' : List MapEntry}, RU m es es' → RU m' es es'
 | [], [], _ => trivial
 | (_, _, _) :: _, _ :: _, ⟨a, b, c, d⟩ => ⟨a.mono hm, b.mono hm, c, RU.mono hm d⟩
theorem Gt.mono {X : Cx} {m m' : Map} (hm : m.le m') {p : Place} {o : CX} {o' : Obj} (h : Gt X m p o o') : Gt X m' p o o' := by
 cases h with
 | cells hel hsz hlen hc hfr => exact .cells hel hsz hlen (fun i v hi => let ⟨v', a, b⟩ := hc i v hi; ⟨v', a, b.mono hm⟩) hfr
 | iter s pos h => exact .iter s pos h
 | mp h he => exact .mp h (he.mono hm)
 | loop h hp he hps ha hb => exact .loop h hp (he.mono hm) hps ha hb
 | dead => exact .dead _
def CX.turns : CX → Bool
 | .cells _ _ w => w
 | .dead => false
 | _ => true
def Fix (X : Cx) (m : Map) (w : World) : Prop := ∀ x ∈ X.FX, (∃ c t fr, w.heap[x.1]? = some (.cells c t fr) ∧ x.2 c) ∧ ∀ b p, m b = some p → p.blk ≠ x.1
theorem Fix.lt {X : Cx} {m : Map} {w : World} (h : Fix X m w) {x : Nat × (Array Value → Prop)} (hx : x ∈ X.FX) : x.1 < w.heap.size := by
 obtain ⟨⟨c, t, fr, h1, _⟩, _⟩ := h x hx
 exact (Array.getElem?_eq_some_iff.1 h1).1
theorem Fix.frame {X : Cx} {m m' : Map} {w w' : World} (h : Fix X m w) (hf : ∀ x ∈ X.FX, w'.heap[x.1]? = w.heap[x.1]?) (hm : ∀ b p, m' b = some p → (∃ b0 p0, m b0 = some p0 ∧ p0.blk = p.blk) ∨ w.heap.size ≤ p.blk) : Fix X m' w' := fun x hx => by
 obtain ⟨h1, h2⟩ := h x hx
 refine ⟨by rw [hf x hx]; exact h1, fun b p hb e => ?_⟩
 rcases hm b p hb with ⟨b0, p0, h3, h4⟩ | h3
 · exact h2 b0 p0 h3 (h4.trans e)
 · have := h.lt hx; omega
structure Rl (X : Cx) (m : Map) (s : AA) (w : World) : Prop where
 obj : ∀ b p o, m b = some p → s.get b = some o → ∃ o', w.heap[p.blk]? = some o' ∧ Gt X m p o o'
 rng : ∀ b p, m b = some p → p.blk < w.heap.size ∧ b < s.nx
 inj : ∀ b b' p p' o o', m b = some p → m b' = some p' → s.get b = some o → s.get b' = some o' → o.turns = true → o' ≠ .dead → p.blk = p'.blk → b = b'
 glob : ∀ g ∈ X.G, ∃ p, m g = some p ∧ p.blk = g ∧ p.sh = 0
 fix : Fix X m w
def Turned (m : Map) (s : AA) (k : Nat) : Prop := ∃ b p o, m b = some p ∧ s.get b = some o ∧ o.turns = true ∧ p.blk = k
structure Step (m : Map) (s : AA) (w : World) (m' : Map) (s' : AA) (w' : World) : Prop where
 le : m.le m'
 nx : s.nx ≤ s'.nx
 KP : ∀ b p, m' b = some p → b < s.nx → m b = some p
 size : w.heap.size ≤ w'.heap.size
 os : w'.os = w.os
 tape : w'.tape = w.tape
 output : w'.output = w.output
 frame : ∀ k, k < w.heap.size → ¬ Turned m s k → w'.heap[k]? = w.heap[k]?
 turned : ∀ k, k < w.heap.size → Turned m' s' k → Turned m s k
 J8 : ∀ b p, m' b = some p → p.blk < w.heap.size → ∃ b0 p0, m b0 = some p0 ∧ p0.blk = p.blk
theorem Step.refl (m : Map) (s : AA) (w : World) : Step m s w m s w :=
 ⟨m.le_refl, Nat.le_refl _, fun _ _ h _ => h, Nat.le_refl _, rfl, rfl, rfl, fun _ _ _ => rfl, fun _ _ h => h, fun b p h _ => ⟨b, p, h, rfl⟩⟩
theorem Step.trans {m₁ m₂ m₃ : Map} {s₁ s₂ s₃ : AA} {w₁ w₂ w₃ : World} (h : Step m₁ s₁ w₁ m₂ s₂ w₂) (k : Step m₂ s₂ w₂ m₃ s₃ w₃) : Step m₁ s₁ w₁ m₃ s₃ w₃ where
 le := Map.le_trans h.le k.le
 nx := Nat.le_trans h.nx k.nx
 KP := fun b p hb hlt => h.KP b p (k.KP b p hb (Nat.lt_of_lt_of_le hlt h.nx)) hlt
 size := Nat.le_trans h.size k.size
 os := k.os.trans h.os
 tape := k.tape.trans h.tape
 output := k.output.trans h.output
 frame := fun i hi ht => (k.frame i (Nat.lt_of_lt_of_le hi h.size) (fun ht' => ht (h.turned i hi ht'))).trans (h.frame i hi ht)
 turned := fun i hi ht => h.turned i hi (k.turned i (Nat.lt_of_lt_of_le hi h.size) ht)
 J8 := fun b p hb hlt => by
  obtain ⟨b1, p1, h1, e1⟩ := k.J8 b p hb (Nat.lt_of_lt_of_le hlt h.size)
  obtain ⟨b0, p0, h0, e0⟩ := h.J8 b1 p1 h1 (by omega)
  exact ⟨b0, p0, h0, e0.trans e1⟩
theorem Rl.drawn {X : Cx} {m : Map} {s : AA} {w : World} (h : Rl X m s w) (n : Nat) : Rl X m s { w with drawn := n } := ⟨h.obj, h.rng, h.inj, h.glob, h.fix⟩
theorem Step.drawn (m : Map) (s : AA) (w : World) (n : Nat) : Step m s w m s { w with drawn := n } :=
 ⟨m.le_refl, Nat.le_refl _, fun _ _ h _ => h, Nat.le_refl _, rfl, rfl, rfl, fun _ _ _ => rfl, fun _ _ h => h, fun b p h _ => ⟨b, p, h, rfl⟩⟩
def Map.add (m : Map) (b : Nat) (p : Place) : Map := fun i => if i = b then some p else m i
theorem Map.add_same (m : Map) (b : Nat) (p : Place) : m.add b p b = some p := by simp [Map.add]
theorem Map.add_ne (m : Map) {b i : Nat} (p : Place) (h : i ≠ b) : m.add b p i = m i := by simp [Map.add, h]
theorem AA.Ak (s : AA) (o : CX) (b : Nat) : (s.new o).get b = if b = s.nx then some o else s.get b := Tr.get_set s.h s.nx o b
theorem AA.get_put (s : AA) (r : Nat) (o : CX) (b : Nat) : (s.put r o).get b = if b = r then some o else s.get b := Tr.get_set s.h r o b
@[simp] theorem AA.nx_new (s : AA) (o : CX) : (s.new o).nx = s.nx + 1 := rfl
@[simp] theorem AA.nx_put (s : AA) (r : Nat) (o : CX) : (s.put r o).nx = s.nx := rfl
section
variable {X : Cx} {m : Map} {s : AA} {w : World}
theorem Rl.undef (h : Rl X m s w) {b : Nat} (hb : s.nx ≤ b) : m b = none := by
 cases hm : m b with
 | none => rfl
 | some p => exact absurd (h.rng b p hm).2 (by omega)
theorem Rl.Ew (h : Rl X m s w) (p : Place) : m.le (m.add s.nx p) := fun b q hb => by
 have := (h.rng b q hb).2
 rw [Map.add_ne m p (by omega)]; exact hb
theorem Rl.new (h : Rl X m s w) (o : CX) (o' : Obj) (p : Place) (hp : p.blk = w.heap.size) (w' : World) (hw : w'.heap = w.heap.push o') (ho : Gt X (m.add s.nx p) p o o') :
 Rl X (m.add s.nx p) (s.new o) w' where
 obj := by
  intro b q u hb hu
  rw [AA.Ak] at hu
  by_cases e : b = s.nx
  · subst e
    rw [if_pos rfl] at hu
    obtain rfl := Option.some.inj hu
    rw [Map.add_same] at hb
    obtain rfl := Option.some.inj hb
    exact ⟨o', by rw [hw, hp]; simp, ho⟩
  · rw [if_neg e] at hu
    rw [Map.add_ne m p e] at hb
    obtain ⟨u', hu', hr⟩ := h.obj b q u hb hu
    refine ⟨u', ?_, hr.mono (h.Ew p)⟩
    rw [hw, Array.getElem?_push]
    have := (h.rng b q hb).1
    rw [if_neg (by omega)]; exact hu'
 rng := by
  intro b q hb
  rw [hw, Array.size_push]
  by_cases e : b = s.nx
  · subst e
    rw [Map.add_same] at hb
    obtain rfl := Option.some.inj hb
    exact ⟨by omega, by simp⟩
  · rw [Map.add_ne m p e] at hb
    have := h.rng b q hb
    exact ⟨by omega, by simp; omega⟩
 inj := by
  intro b b' q q' u u' hb hb' hu hu' hn hn' he
  rw [AA.Ak] at hu hu'
  by_cases e : b = s.nx
  · by_cases e' : b' = s.nx
    · omega
    · subst e
      rw [Map.add_same] at hb
      obtain rfl := Option.some.inj hb
      rw [Map.add_ne m p e'] at hb'
      have := (h.rng b' q' hb').1
      omega
  · rw [Map.add_ne m p e] at hb
    rw [if_neg e] at hu
    by_cases e' : b' = s.nx
    · subst e'
      rw [Map.add_same] at hb'
      obtain rfl := Option.some.inj hb'
      have := (h.rng b q hb).1
      omega
    · rw [Map.add_ne m p e'] at hb'
      rw [if_neg e'] at hu'
      exact h.inj b b' q q' u u' hb hb' hu hu' hn hn' he
 glob := fun g hg => by
  obtain ⟨q, hq, e⟩ := h.glob g hg
  exact ⟨q, h.Ew p g q hq, e⟩
 fix := h.fix.frame (fun x hx => by
  have := h.fix.lt hx
  rw [hw, Array.getElem?_push, if_neg (by omega)]) fun b q hb => by
  by_cases e : b = s.nx
  · subst e
    rw [Map.add_same] at hb
    obtain rfl := Option.some.inj hb
    exact .inr (by omega)
  · rw [Map.add_ne m p e] at hb
    exact .inl ⟨b, q, hb, rfl⟩
theorem Rl.P5 (h : Rl X m s w) (o : CX) (o' : Obj) (p : Place) (hp : p.blk = w.heap.size) (w' : World) (hw : w'.heap = w.heap.push o') (h1 : w'.os = w.os) (h2 : w'.tape = w.tape) (h3 : w'.output = w.output) :
 Step m s w (m.add s.nx p) (s.new o) w' where
 le := h.Ew p
 nx := by simp
 KP := fun b q hb hlt => by rw [Map.add_ne m p (by omega)] at hb; exact hb
 size := by rw [hw, Array.size_push]; omega
 os := h1
 tape := h2
 output := h3
 frame := fun k hk _ => by rw [hw, Array.getElem?_push, if_neg (by omega)]
 turned := by
  rintro k hk ⟨b, q, u, hb, hu, ht, rfl⟩
  rw [AA.Ak] at hu
  by_cases e : b = s.nx
  · subst e
    rw [Map.add_same] at hb
    obtain rfl := Option.some.inj hb
    omega
  · rw [if_neg e] at hu
    rw [Map.add_ne m p e] at hb
    exact ⟨b, q, u, hb, hu, ht, rfl⟩
 J8 := by
  intro b q hb hlt
  by_cases e : b = s.nx
  · subst e
    rw [Map.add_same] at hb
    obtain rfl := Option.some.inj hb
    omega
  · rw [Map.add_ne m p e] at hb
    exact ⟨b, q, hb, rfl⟩
theorem Rl.put (h : Rl X m s w) {r : Nat} {p : Place} {o u : CX} {u' : Obj} (hr : m r = some p) (ho : s.get r = some o) (hd : o.turns = true)
 (w' : World) (hsz : w'.heap.size = w.heap.size) (hat : w'.heap[p.blk]? = some u') (hoth : ∀ k, k ≠ p.blk → w'.heap[k]? = w.heap[k]?) (hu : Gt X m p u u') : Rl X m (s.put r u) w' where
 obj := by
  intro b q x hb hx
  rw [AA.get_put] at hx
  by_cases e : b = r
  · subst e
    rw [if_pos rfl] at hx
    obtain rfl := Option.some.inj hx
    obtain rfl := Option.some.inj (hb.symm.trans hr)
    exact ⟨u', hat, hu⟩
  · rw [if_neg e] at hx
    by_cases hxd : x = .dead
    · subst hxd
      have hlt := (h.rng b q hb).1
      exact ⟨w'.heap[q.blk]'(by omega), by rw [Array.getElem?_eq_getElem], .dead _⟩
    · obtain ⟨x', hx', hrel⟩ := h.obj b q x hb hx
      refine ⟨x', ?_, hrel⟩
      rw [hoth _ fun eb => e (h.inj r b p q o x hr hb ho hx hd hxd eb.symm).symm]; exact hx'
 rng := fun b q hb => by rw [hsz]; exact h.rng b q hb
 inj := by
  intro b b' q q' x x' hb hb' hx hx' hn hn' he
  rw [AA.get_put] at hx hx'
  have key : ∀ b x, (if b = r then some u else s.get b) = some x → ∃ y, s.get b = some y ∧ (y = x ∨ y.turns = true) := by
   intro b x hx
   by_cases e : b = r
   · subst e; exact ⟨o, ho, .inr hd⟩
   · rw [if_neg e] at hx; exact ⟨x, hx, .inl rfl⟩
  obtain ⟨y, hy, hny⟩ := key b x hx
  obtain ⟨y', hy', hny'⟩ := key b' x' hx'
  have hny : y.turns = true := by
   rcases hny with rfl | e
   · exact hn
   · exact e
  have hny' : y' ≠ .dead := by
   rcases hny' with rfl | e
   · exact hn'
   · intro e'; rw [e'] at e; cases e
  exact h.inj b b' q q' y y' hb hb' hy hy' hny hny' he
 glob := h.glob
 fix := h.fix.frame (fun x hx => hoth _ fun e => (h.fix x hx).2 r p hr e.symm) fun b q hb => .inl ⟨b, q, hb, rfl⟩
theorem Rl.Ij {r : Nat} {p : Place} {o u : CX} (hr : m r = some p) (ho : s.get r = some o) (ht : o.turns = true)
 (w' : World) (hsz : w'.heap.size = w.heap.size) (hoth : ∀ k, k ≠ p.blk → w'.heap[k]? = w.heap[k]?) (h1 : w'.os = w.os) (h2 : w'.tape = w.tape) (h3 : w'.output = w.output) :
 Step m s w m (s.put r u) w' where
 le := m.le_refl
 nx := Nat.le_refl _
 KP := fun _ _ h _ => h
 size := by omega
 os := h1
 tape := h2
 output := h3
 frame := fun k _ hk => hoth k fun e => hk ⟨r, p, o, hr, ho, ht, e.symm⟩
 turned := by
  rintro k _ ⟨b, q, x, hb, hx, hxt, rfl⟩
  rw [AA.get_put] at hx
  by_cases e : b = r
  · subst e
    obtain rfl := Option.some.inj (hb.symm.trans hr)
    exact ⟨b, q, o, hr, ho, ht, rfl⟩
  · rw [if_neg e] at hx
    exact ⟨b, q, x, hb, hx, hxt, rfl⟩
 J8 := fun b q hb _ => ⟨b, q, hb, rfl⟩
end
end Go.Im

/- The ideal machine: code. -/
import Derived.Test.YtojbkocmobkddaaGreatDoorImS16x
set_option linter.all false
namespace Go.Im
section
variable {X : Cx} {T : MT} {self : Self} {n : Nat}
inductive YR : Ex → Exit → Prop
 | normal : YR .normal .normal
 | ret : YR .ret .ret
 | exit (id : Nat) : YR (.exit id) (.exit id)
def Post (X : Cx) (nt B : Nat) {β : Type} (K : Kt β) (Q : β → Prop) (m : Map) (s : AA) (w : World) : Exit → Act → World → Prop := fun e a' w' =>
 ∃ ex env' s' m', YR ex e ∧ (K ex env' s').all Q ∧ St X nt B m' env' s' a' w' ∧ Step m s w m' s' w'
theorem Post.trans {nt B : Nat} {β : Type} {K : Kt β} {Q : β → Prop} {m m1 : Map} {s s1 : AA} {w w1 : World} (h : Step m s w m1 s1 w1) {e : Exit} {a' : Act} {w' : World} (hp : Post X nt B K Q m1 s1 w1 e a' w') : Post X nt B K Q m s w e a' w' := by
 obtain ⟨ex, env', s', m', h1, h2, h3, h4⟩ := hp
 exact ⟨ex, env', s', m', h1, h2, h3, h.trans h4⟩
theorem Wn {β : Type} (f : Xc β) (ks : List Nat) (k : Nat) (env : Env) (s : AA) (K : Kt β) : Aw f ks (k + 1) env s K = f env s (AX (fun env' s' => Aw f ks k (Env.keep env' ks) s' K) K) := rfl
open Classical in
noncomputable def least (p : Nat → Prop) : Nat := if h : ∃ k, p k ∧ ∀ j, p j → k ≤ j then h.choose else 0
theorem VR {p : Nat → Prop} (h : ∃ k, p k) : p (least p) ∧ ∀ j, p j → least p ≤ j := by
 obtain ⟨n, hn⟩ := h
 have h' := exists_least n ⟨n, Nat.le_refl n, hn⟩
 unfold least
 rw [dif_pos h']
 exact h'.choose_spec
theorem Wp {p : Nat → Prop} (h : ∃ k, p k) : p (least p) := (VR h).1
theorem least_le {p : Nat → Prop} {k : Nat} (h : p k) : least p ≤ k := (VR ⟨k, h⟩).2 k h
theorem Rl.push {m : Map} {s : AA} {w : World} (h : Rl X m s w) (o : Obj) (w' : World) (hw : w'.heap = w.heap.push o) : Rl X m s w' where
 obj := fun b p u hb hu => by
  obtain ⟨u', h1, h2⟩ := h.obj b p u hb hu
  have := (h.rng b p hb).1
  exact ⟨u', by rw [hw, Array.getElem?_push, if_neg (by omega)]; exact h1, h2⟩
 rng := fun b p hb => by
  have := h.rng b p hb
  rw [hw, Array.size_push]
  exact ⟨by omega, this.2⟩
 inj := h.inj
 glob := h.glob
 fix := h.fix.frame (fun x hx => by
  have := h.fix.lt hx
  rw [hw, Array.getElem?_push, if_neg (by omega)]) fun b q hb => .inl ⟨b, q, hb, rfl⟩
theorem Step.push (m : Map) (s : AA) {w w' : World} (o : Obj) (hw : w'.heap = w.heap.push o) (h1 : w'.os = w.os) (h2 : w'.tape = w.tape) (h3 : w'.output = w.output) : Step m s w m s w' :=
 ⟨m.le_refl, Nat.le_refl _, fun _ _ h _ => h, by rw [hw]; simp, h1, h2, h3, fun k hk _ => by rw [hw, Array.getElem?_push, if_neg (by omega)], fun _ _ h => h, fun b p h _ => ⟨b, p, h, rfl⟩⟩
theorem Marks.push {m : Map} {s : AA} {w : World} {B : Nat} {ds : List Deferred} (hR : Rl X m s w) (h : Marks m w B ds) (hB : B ≤ w.heap.size) (w' : World) (hw : w'.heap = w.heap.push (.deferred (some []))) :
 Marks m w' B (L8 w.heap.size :: ds) := by
 obtain ⟨rs, e1, e2, e3⟩ := h
 refine ⟨w.heap.size :: rs, by rw [e1]; rfl, List.nodup_cons.2 ⟨fun hin => ?_, e2⟩, fun r hr => ?_⟩
 · have := FM (e3 _ hin).2.1
   omega
 · rcases List.mem_cons.1 hr with rfl | hr
   · refine ⟨hB, by rw [hw]; simp, fun b p hb e => ?_⟩
     have := (hR.rng b p hb).1
     omega
   · obtain ⟨g1, g2, g3⟩ := e3 r hr
     have := FM g2
     exact ⟨g1, by rw [hw, Array.getElem?_push, if_neg (by omega)]; exact g2, g3⟩
theorem Qx {nt B : Nat} {β : Type} {K : Kt β} {Q : β → Prop} {m0 m1 m2 : Map} {s0 s1 s2 : AA} {w0 w1 w2 : World} {env : Env} {a : Act} {b : Nat} {p : Place}
 (h01 : Step m0 s0 w0 m1 s1 w1) (h12 : Step m1 s1 w1 m2 s2 w2) (hE : CB m1 env a.tmps) (hsz : a.tmps.size = nt) (hmk : Marks m1 w1 B a.defers) (hlow : B ≤ w0.heap.size) (hR2 : Rl X m2 s2 w2) (hm2 : m2 b = some p)
 (hq : (endLoop K env s2 b (s2.get b)).all Q) :
 ∃ jump w4, (Instr.endLoop p.blk).run X.P w2 = .ok jump w4 ∧
  (match jump with
   | none => Post X nt B K Q m0 s0 w0 .normal a w4
   | some c => c.wpIn Fence.wide n X.P (Post X nt B K Q m0 s0 w0) a w4) := by
 unfold endLoop at hq
 split at hq
 · exact hq.elim
 · next st pd env' ps' asg' body' hne hget =>
   obtain ⟨o', ho1, ho2⟩ := hR2.obj b p _ hm2 hget
   cases ho2 with
   | @loop _ _ _ _ _ _ pd' f1 O8 x1 y1 d1 hsh hpr he1 hps1 ha1 hb1 =>
    have hlt2 := FM ho1
    obtain ⟨w4, hw4⟩ : ∃ w4, w4 = w2.putObj p.blk (.loop { state := .exhausted, pending := pd', fn := f1, tmps := O8, params := ⟨ps'⟩, assign := x1, body := y1, defers := d1 }) := ⟨_, rfl⟩
    refine ⟨pd', w4, ?_, ?_⟩
    · rw [hw4]
      exact run_endLoop ho1 (fun e => hne e)
    have hsz4 : w4.heap.size = w2.heap.size := by rw [hw4]; simp
    have hat : w4.heap[p.blk]? = some (.loop { state := .exhausted, pending := pd', fn := f1, tmps := O8, params := ⟨ps'⟩, assign := x1, body := y1, defers := d1 }) := by rw [hw4]; exact World.putObj_heap_same hlt2
    have hoth : ∀ k, k ≠ p.blk → w4.heap[k]? = w2.heap[k]? := fun k hk => by rw [hw4]; exact World.putObj_heap_other hk
    have hR3 : Rl X m2 (s2.put b (.loop .exhausted pd env' ps' asg' body')) w4 := hR2.put hm2 hget rfl w4 hsz4 hat hoth (.loop hsh hpr he1 hps1 ha1 hb1)
    have hS3 : Step m2 s2 w2 m2 (s2.put b (.loop .exhausted pd env' ps' asg' body')) w4 := Rl.Ij hm2 hget rfl w4 hsz4 hoth (by rw [hw4]; rfl) (by rw [hw4]; rfl) (by rw [hw4]; rfl)
    have hS13 := h12.trans hS3
    have hS03 := h01.trans hS13
    have hst3 : St X nt B m2 env (s2.put b (.loop .exhausted pd env' ps' asg' body')) a w4 := ⟨hE.mono hS13.le, hR3, hsz, hmk.step hS13, Nat.le_trans hlow hS03.size⟩
    cases pd with
    | none =>
     cases pd' with
     | none => exact ⟨.normal, env, _, m2, .normal, hq, hst3, hS03⟩
     | some c => exact hpr.elim
    | some pe =>
     cases pe with
     | ret =>
      match pd', hpr with
      | some .ret, _ => exact wpIn_ret ⟨.ret, env, _, m2, .ret, hq, hst3, hS03⟩
     | exit id =>
      match pd', hpr with
      | some (.exit id'), hpr =>
       have : id = id' := hpr
       subst this
       exact wpIn_exit ⟨.exit id, env, _, m2, .exit id, hq, hst3, hS03⟩
 · exact hq.elim
theorem VT {nt B : Nat} {β : Type} {K : Kt β} {Q : β → Prop} {m : Map} {s : AA} {w : World} {env : Env} {a : Act} {f0 : Nat} {fn : Func} {cd : Code} {la lb la' lb' : List Value} {qs : List Nat} {ps : Array Nat} {c1 c2 : AB} {x y : Code} {g : Operand}
 (hf1 : X.P.funcs[f0]? = some fn) (hf2 : fn.body = some cd) (hf3 : (fn.name == "runtime.NumGoroutine") = false)
 (hcall : ∀ (m1 : Map) (w1 : World) (args' : List Value) (n : Nat), Rl X m1 (s.new (.loop .ready none env qs c1 c2)) w1 → CJ m1 (la ++ ([.func (.yield s.nx) ⟨[]⟩ ⟨[]⟩] ++ lb)) args' →
  CallsIn Fence.wide n X.P f0 ⟨args'⟩ w1 fun e w' => ∃ v s' v', e = .returned v' ∧ (endLoop K env s' s.nx (s'.get s.nx)).all Q ∧ Did X m1 (s.new (.loop .ready none env qs c1 c2)) w1 v s' v' w')
 (hst : St X nt B m env s a w) (ha : CJ m la la') (hb : CJ m lb lb') (hfv : a.eval g = .func (.func f0) ⟨la'⟩ ⟨lb'⟩) (hps : qs = ps.toList) (hlt : (qs.all fun t => decide (t < nt)) = true)
 (hx : DR X.P X.G X.TA X.TK nt true c1 x = true) (hy : DR X.P X.G X.TA X.TK nt true c2 y = true) : (Code.rangeFunc g ps x y).wpIn Fence.wide n X.P (Post X nt B K Q m s w) a w := by
 refine wpIn_rangeFunc fun fn0 _ => ?_
 obtain ⟨l, hl⟩ : ∃ l, l = w.heap.size + 1 := ⟨_, rfl⟩
 obtain ⟨p, hp⟩ : ∃ p : Place, p = ⟨l, 0, 0, 0⟩ := ⟨_, rfl⟩
 have hpb : p.blk = l := by rw [hp]
 obtain ⟨lo, hlo⟩ : ∃ lo : Loop, lo = { state := .ready, pending := none, fn := fn0, tmps := a.tmps, params := ps, assign := x, body := y, defers := w.heap.size } := ⟨_, rfl⟩
 obtain ⟨wa, hwa⟩ : ∃ wa : World, wa = { w with heap := w.heap.push (.deferred (some [])) } := ⟨_, rfl⟩
 obtain ⟨w₁, hw₁⟩ : ∃ w₁ : World, w₁ = { w with heap := (w.heap.push (.deferred (some []))).push (.loop lo) } := ⟨_, rfl⟩
 have hwah : wa.heap = w.heap.push (.deferred (some [])) := by rw [hwa]
 have hw1h : w₁.heap = wa.heap.push (.loop lo) := by rw [hw₁, hwa]
 have hRa : Rl X m s wa := hst.rl.push _ wa hwah
 have hSa : Step m s w m s wa := Step.push m s _ hwah (by rw [hwa]) (by rw [hwa]) (by rw [hwa])
 have hpl : p.blk = wa.heap.size := by rw [hpb, hwah, hl]; simp
 have hor : Gt X (m.add s.nx p) p (.loop .ready none env qs c1 c2) (.loop lo) := by
  have hpe : ps = ⟨qs⟩ := by rw [hps]
  rw [hlo, hpe]
  exact .loop (by rw [hp]) trivial (hst.env.mono (hRa.Ew p)) (fun t ht => by rw [hst.sz]; exact of_decide_eq_true (List.all_eq_true.1 hlt t ht)) (by rw [hst.sz]; exact hx) (by rw [hst.sz]; exact hy)
 have hR1 : Rl X (m.add s.nx p) (s.new (.loop .ready none env qs c1 c2)) w₁ := hRa.new _ _ p hpl w₁ hw1h hor
 have hSb : Step m s wa (m.add s.nx p) (s.new (.loop .ready none env qs c1 c2)) w₁ := hRa.P5 _ _ p hpl w₁ hw1h (by rw [hw₁, hwa]) (by rw [hw₁, hwa]) (by rw [hw₁, hwa])
 have hS1 := hSa.trans hSb
 have hmk := (Marks.push hst.rl hst.marks hst.low wa hwah).step hSb
 have hle1 : m.le (m.add s.nx p) := hRa.Ew p
 have hyr : BH (m.add s.nx p) (.func (.yield s.nx) ⟨[]⟩ ⟨[]⟩) (.func (.yield p.blk) ⟨[]⟩ ⟨[]⟩) := .func (.yield (Map.add_same _ _ _)) .nil .nil
 have hargs : CJ (m.add s.nx p) (la ++ ([.func (.yield s.nx) ⟨[]⟩ ⟨[]⟩] ++ lb)) (la' ++ ([.func (.yield p.blk) ⟨[]⟩ ⟨[]⟩] ++ lb')) := (ha.mono hle1).append (.cons hyr (hb.mono hle1))
 have hc := hcall (m.add s.nx p) w₁ _ (n - 1) hR1 hargs
 have k1 : (Instr.enterLoop fn0 a.tmps ps x y Fence.wide.round).run X.P w = .ok (p.blk, [L8 w.heap.size]) w₁ := by
  rw [hpb, hl, hw₁, hlo]
  exact run_enterLoop_outer (P := X.P) (w := w) fn0 a.tmps ps x y
 have k2 : (resolve a.eval (rangeCall g p.blk) 0).run X.P w₁ = .ok { target := .fn (.func f0) ⟨lb'⟩, args := (⟨la'⟩ : Array Value) ++ #[.func (.yield p.blk) #[] #[]] } w₁ := by
  have ea : (#[Operand.const (.func (.yield p.blk) #[] #[])].map a.eval) = #[.func (.yield p.blk) #[] #[]] := by simp [Act.eval]
  simp only [resolve, ea, hfv, Deferred.ofValue, Sem.run_pure]
 have k3 : (invoke (.fn (.func f0) ⟨lb'⟩) ((⟨la'⟩ : Array Value) ++ #[.func (.yield p.blk) #[] #[]])).run X.P w₁ = .ok (.enter f0 ⟨la' ++ ([.func (.yield p.blk) ⟨[]⟩ ⟨[]⟩] ++ lb')⟩) w₁ := by
  have WW : (((⟨la'⟩ : Array Value) ++ #[.func (.yield p.blk) #[] #[]]) ++ (⟨lb'⟩ : Array Value)) = ⟨la' ++ ([.func (.yield p.blk) ⟨[]⟩ ⟨[]⟩] ++ lb')⟩ := by apply Array.ext'; simp
  rw [← WW]
  exact MF hf1 hf2 hf3 w₁
 have k4 : CallsIn Fence.wide (n - 1) X.P f0 ⟨la' ++ ([.func (.yield p.blk) ⟨[]⟩ ⟨[]⟩] ++ lb')⟩ w₁ (rangePost Fence.wide n X.P p.blk (Post X nt B K Q m s w) { a with defers := [L8 w.heap.size] ++ a.defers }) := by
  refine hc.mono ?_
  intro e w2 hpost
  obtain ⟨v, s2, v', he, hq, hd⟩ := hpost
  subst he
  obtain ⟨m2, hR2, hS2, _⟩ := hd.ex
  have := Qx (n := n) (nt := nt) (B := B) (K := K) (Q := Q) (env := env) (a := { a with defers := [L8 w.heap.size] ++ a.defers }) hS1 hS2 (hst.env.mono hle1) hst.sz hmk hst.low hR2 (hS2.le _ _ (Map.add_same _ _ _)) hq
  exact this
 exact ⟨p.blk, [L8 w.heap.size], w₁, _, w₁, f0, _, w₁, k1, k2, fun _ _ => trivial, k3, fun hd => absurd hd (by simp [Fence.wide]), k4⟩
set_option maxHeartbeats 1000000 in
theorem LD (hX : Good X T) (hS : Gx X self) (N : Nat) {nt B : Nat} {β : Type} : ∀ (x : Code) (c : AB) (F : Fence) (inR : Bool), Fen F inR → DR X.P X.G X.TA X.TK nt inR c x = true → ∀ (env : Env) (s : AA) (a : Act) (w : World) (m : Map) (K : Kt β) (Q : β → Prop),
 (exec T self N c env s K).all Q → St X nt B m env s a w → x.wpIn F n X.P (Post X nt B K Q m s w) a w := by
 intro x
 induction x with
 | skip =>
  intro c F inR hF hok env s a w m K Q h hst
  cases c <;> try (exact absurd hok Bool.false_ne_true)
  exact wpIn_skip ⟨.normal, env, s, m, .normal, h, hst, Step.refl _ _ _⟩
 | label l =>
  intro c F inR hF hok env s a w m K Q h hst
  cases c <;> try (exact absurd hok Bool.false_ne_true)
  exact wpIn_label ⟨.normal, env, s, m, .normal, h, hst, Step.refl _ _ _⟩
 | ret =>
  intro c F inR hF hok env s a w m K Q h hst
  cases c <;> try (exact absurd hok Bool.false_ne_true)
  exact wpIn_ret ⟨.ret, env, s, m, .ret, h, hst, Step.refl _ _ _⟩
 | exit id =>
  intro c F inR hF hok env s a w m K Q h hst
  cases c <;> try (exact absurd hok Bool.false_ne_true)
  have := of_decide_eq_true hok
  subst this
  exact wpIn_exit ⟨.exit _, env, s, m, .exit _, h, hst, Step.refl _ _ _⟩
 | region id ops draw =>
  intro c F inR hF hok env s a w m K Q h hst
  cases c <;> cases draw <;> try (exact absurd hok Bool.false_ne_true)
  case reg.false l =>
   refine wpIn_region ?_
   have := RZ (n := n) (Q := Post X nt B K Q m s w) (Qr := Q) hX hS hF l ops.toList 0 env s a w m (K .normal) hok (fun j o hj => by simpa using hj) h hst
    fun env' s' a' w' m' g1 g2 g3 => ⟨.normal, env', s', m', .normal, g1, g2, g3⟩
   rw [Array.length_toList, ← List.range_eq_range'] at this
   exact this
  case Dl.true l rds =>
   exact Wj hX hS hF hok h hst fun env' s' a' w' m' g1 g2 g3 => ⟨.normal, env', s', m', .normal, g1, g2, g3⟩
 | seq x y ihx ihy =>
  intro c F inR hF hok env s a w m K Q h hst
  have key : ∀ (c1 c2 : AB) (f : Env → Env), DR X.P X.G X.TA X.TK nt inR c1 x = true → DR X.P X.G X.TA X.TK nt inR c2 y = true → (∀ m ev t, CB m ev t → CB m (f ev) t) →
   (exec T self N c1 env s (AX (fun env' s' => exec T self N c2 (f env') s' K) K)).all Q → (Code.seq x y).wpIn F n X.P (Post X nt B K Q m s w) a w := by
   intro c1 c2 f h1 h2 hf h
   refine wpIn_seq (wpIn_mono (ihx c1 F inR hF h1 env s a w m _ Q h hst) ?_)
   rintro e a' w' ⟨ex, env', s', m', hr, hk, hst', hstep⟩
   cases hr with
   | normal =>
    refine wpIn_mono (ihy c2 F inR hF h2 (f env') s' a' w' m' K Q hk ⟨hf _ _ _ hst'.env, hst'.rl, hst'.sz, hst'.marks, hst'.low⟩) fun e a w hp => Post.trans hstep hp
   | ret => exact ⟨.ret, env', s', m', .ret, hk, hst', hstep⟩
   | exit id => exact ⟨.exit id, env', s', m', .exit id, hk, hst', hstep⟩
  cases c <;> try (exact absurd hok Bool.false_ne_true)
  case seq c1 c2 =>
   have hok' := (Bool.and_eq_true _ _ ▸ hok : DR X.P X.G X.TA X.TK nt inR c1 x = true ∧ DR X.P X.G X.TA X.TK nt inR c2 y = true)
   exact key c1 c2 id hok'.1 hok'.2 (fun _ _ _ h => h) h
  case BM ks c1 c2 =>
   have hok' := (Bool.and_eq_true _ _ ▸ hok : DR X.P X.G X.TA X.TK nt inR c1 x = true ∧ DR X.P X.G X.TA X.TK nt inR c2 y = true)
   exact key c1 c2 (fun ev => Env.keep ev ks) hok'.1 hok'.2 (fun _ _ _ h => h.keep ks) h
 | cond c' x y ihx ihy =>
  intro c F inR hF hok env s a w m K Q h hst
  cases c <;> try (exact absurd hok Bool.false_ne_true)
  case cond co c1 c2 =>
   simp only [DR, Bool.and_eq_true] at hok
   have h' : (Bf (exec T self N c1 env s K) (exec T self N c2 env s K) (ev env co)).all Q := h
   cases hv : ev env co with
   | none => rw [hv] at h'; exact h'.elim
   | some v =>
    have hr := Bd hst.env hst.rl.glob hok.1.1 hv
    rw [hv] at h'
    cases v <;> try exact h'.elim
    case bool t =>
     refine wpIn_cond hr.VD ?_
     cases t with
     | true => exact ihx c1 F inR hF hok.1.2 env s a w m K Q h' hst
     | false => exact ihy c2 F inR hF hok.2 env s a w m K Q h' hst
 | block id x ih =>
  intro c F inR hF hok env s a w m K Q h hst
  cases c <;> try (exact absurd hok Bool.false_ne_true)
  case block id' c1 =>
   simp only [DR, Bool.and_eq_true, decide_eq_true_eq] at hok
   obtain ⟨rfl, hok⟩ := hok
   refine wpIn_block (wpIn_mono (ih c1 F inR hF hok env s a w m (AP id' K) Q h hst) ?_)
   rintro e a' w' ⟨ex, env', s', m', hr, hk, hst', hstep⟩
   cases hr with
   | normal => exact ⟨.normal, env', s', m', .normal, hk, hst', hstep⟩
   | ret => exact ⟨.ret, env', s', m', .ret, hk, hst', hstep⟩
   | exit id =>
    have hk' : (cond (Nat.beq id id') (K .normal env' s') (K (.exit id) env' s')).all Q := hk
    simp only [Exit.inBlock]
    by_cases e : id = id'
    · rw [if_pos e]
      rw [Ej e] at hk'
      exact ⟨.normal, env', s', m', .normal, hk', hst', hstep⟩
    · rw [if_neg e]
      rw [Hr e] at hk'
      exact ⟨.exit id, env', s', m', .exit id, hk', hst', hstep⟩
 | loop x ih =>
  intro c F inR hF hok env s a w m K Q h hst
  cases c <;> try (exact absurd hok Bool.false_ne_true)
  case loop ks c1 =>
   let f : Xc β := exec T self N c1
   let J : Act → World → Nat → Prop := fun a' w' k => ∃ env' s' m', (Aw f ks k env' s' K).all Q ∧ St X nt B m' env' s' a' w' ∧ Step m s w m' s' w'
   refine wpIn_loop (fun a' w' => ∃ k, J a' w' k) (fun a' w' => least (J a' w')) ⟨N, Env.keep env ks, s, m, h, ⟨hst.env.keep ks, hst.rl, hst.sz, hst.marks, hst.low⟩, Step.refl _ _ _⟩ ?_
   intro a' w' hI
   obtain ⟨env', s', m', h1, h2, h3⟩ := Wp hI
   generalize hk : least (J a' w') = k at h1
   cases k with
   | zero => exact h1.elim
   | succ k =>
    rw [Wn] at h1
    refine wpIn_mono (ih c1 F inR hF hok env' s' a' w' m' _ Q h1 h2) ?_
    rintro e a2 w2 ⟨ex, IQ, s2, m2, hr, hk2, hst2, hstep2⟩
    cases hr with
    | normal =>
     have hj : J a2 w2 k := ⟨Env.keep IQ ks, s2, m2, hk2, ⟨hst2.env.keep ks, hst2.rl, hst2.sz, hst2.marks, hst2.low⟩, h3.trans hstep2⟩
     refine ⟨⟨k, hj⟩, ?_⟩
     have := least_le hj
     show least (J a2 w2) < k + 1
     omega
    | ret => exact ⟨.ret, IQ, s2, m2, .ret, hk2, hst2, h3.trans hstep2⟩
    | exit id => exact ⟨.exit id, IQ, s2, m2, .exit id, hk2, hst2, h3.trans hstep2⟩
 | rangeFunc g ps x y ihx ihy =>
  intro c F inR hF hok env s a w m K Q h hst
  cases c <;> try (exact absurd hok Bool.false_ne_true)
  case Ol f qs c1 c2 =>
   have hok1 : (!inR && DC X.G f g && decide (qs = ps.toList) && (qs.all fun t => decide (t < nt)) && DR X.P X.G X.TA X.TK nt true c1 x && DR X.P X.G X.TA X.TK nt true c2 y) = true := hok
   simp only [Bool.and_eq_true, decide_eq_true_eq, Bool.not_eq_true'] at hok1
   obtain ⟨⟨⟨⟨⟨hr0, hg⟩, hps⟩, hlt⟩, hx⟩, hy⟩ := hok1
   subst hr0
   cases hF
   obtain ⟨gv, hgv, h1⟩ := R.all_obR (show (obR 31 (ev env f) fun g => (RJ self [.func (.yield s.nx) ⟨[]⟩ ⟨[]⟩] (s.new (.loop .ready none env qs c1 c2)) g).bind fun r => endLoop K env r.2 s.nx (r.2.get s.nx)).all Q from h)
   have h2 := (R.all_bind _ _ _).1 h1
   have hrg := Bd hst.env hst.rl.glob hg hgv
   generalize hfv : a.eval g = fv at hrg
   cases hrg <;> try exact h2.elim
   case func fn fn' la la' lb lb' hf ha hb =>
    cases hf <;> try exact h2.elim
    case func f0 =>
     have h3 : (self (.fn f0) (la ++ ([.func (.yield s.nx) ⟨[]⟩ ⟨[]⟩] ++ lb)) (s.new (.loop .ready none env qs c1 c2))).all (fun r => (endLoop K env r.2 s.nx (r.2.get s.nx)).all Q) := h2
     obtain ⟨⟨fn, cd, hf1, hf2, hf3⟩, hcall⟩ := hS.fn f0 _ _ _ h3
     exact VT hf1 hf2 hf3 hcall hst ha hb hfv hps hlt hx hy
 | scope x ih =>
  intro c F inR hF hok env s a w m K Q h hst
  cases c <;> exact absurd hok Bool.false_ne_true
 | goto l =>
  intro c F inR hF hok env s a w m K Q h hst
  cases c <;> exact absurd hok Bool.false_ne_true
 | refuse why =>
  intro c F inR hF hok env s a w m K Q h hst
  cases c <;> exact absurd hok Bool.false_ne_true
end
end Go.Im

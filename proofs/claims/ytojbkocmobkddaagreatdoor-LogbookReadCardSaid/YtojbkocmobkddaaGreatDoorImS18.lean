/- The ideal machine: functions and rounds. -/
import Derived.Test.YtojbkocmobkddaaGreatDoorImS17
set_option linter.all false
namespace Go.Im
section
variable {X : Cx} {T : MT} {self : Self} {m : Map} {s : AA} {w : World} {env : Env} {a : Act} {n : Nat}
theorem lQ {P : Program} (h : Rl X m s w) {t : Nat} (ht : Kv P t = some false) {x x' r : Value} (hv : rLd s x = some r) (hx : BH m x x') : ∃ r', (do loadVar t (← asAddr x') : Sem Value).run P w = .ok r' w ∧ BH m r r' := by
 cases hx <;> simp only [rLd] at hv <;> try (simp at hv; done)
 case ptr b o p hm =>
  obtain ⟨r', h1, h2⟩ := YN h hm hv
  refine ⟨r', ?_, h2⟩
  simp [asAddr, loadVar, Gn ht, load, Sem.run, h1]
theorem iH {P : Program} (h : Rl X m s w) {t n : Nat} (ht : Kv P t = some true) (hn : isz P t = some n) {x x' r : Value} (hv : DY s n x = some r) (hx : BH m x x') :
 ∃ r', (do loadVar t (← asAddr x') : Sem Value).run P w = .ok r' w ∧ BH m r r' := by
 cases hx <;> simp only [DY] at hv <;> try (simp at hv; done)
 case ptr b o p hm =>
  rw [Ag] at hv
  obtain ⟨l, hl, hv⟩ := hv
  simp at hv; subst hv
  obtain ⟨l', h1, _, h2⟩ := FI (P := P) h hm hl
  refine ⟨.agg ⟨l'⟩, ?_, .agg h1⟩
  simp [asAddr, loadVar, Gn ht, run_sizeOf hn, h2]
theorem PV {tmps : Array Value} (hE : CB m env tmps) {t : Nat} {v : Value} (h : Tr.get env t = some v) : BH m v (tmps.getD t undef) := by
 obtain ⟨v', h1, h2⟩ := hE t v h
 have : tmps.getD t undef = v' := by simp [Array.getD_eq_getD_getElem?, h1]
 rw [this]; exact h2
def resF (tmps : Array Value) : ResultVar → Sem Value
 | .tmp t => pure (tmps.getD t undef)
 | .cell a t => do loadVar t (← asAddr (tmps.getD a undef))
theorem PW {P : Program} {tmps : Array Value} {nt : Nat} (hR : Rl X m s w) (hE : CB m env tmps) : ∀ {l : List IRes} {l' : List ResultVar} {vs : List Value}, JU P nt l l' = true → IK env s l = some vs →
 ∃ vs', CJ m vs vs' ∧ (l'.mapM (resF tmps)).run P w = .ok vs' w
 | [], [], vs, _, h => by
  simp [IK] at h; subst h
  exact ⟨[], .nil, by simp⟩
 | r :: l, r' :: l', vs, hok, h => by
  simp only [IK, Ag] at h
  obtain ⟨v, h1, us, h2, h3⟩ := h
  have h3 := (Option.some.inj h3).symm
  subst h3
  have key : JU P nt l l' = true ∧ ∃ v', BH m v v' ∧ (resF tmps r').run P w = .ok v' w := by
   cases r <;> cases r' <;> try (exact absurd hok Bool.false_ne_true)
   case tmp.tmp t t' =>
    simp only [JU, Bool.and_eq_true, decide_eq_true_eq] at hok
    obtain ⟨⟨e, _⟩, hok2⟩ := hok
    subst e
    exact ⟨hok2, _, PV hE h1, by simp [resF]⟩
   case cell.cell t t' ty =>
    simp only [JU, Bool.and_eq_true, decide_eq_true_eq] at hok
    obtain ⟨⟨e, ht⟩, hok2⟩ := hok
    subst e
    simp only [WC, Ag] at h1
    obtain ⟨u, hu, h1⟩ := h1
    obtain ⟨r', e1, e2⟩ := lQ (P := P) hR ht h1 (PV hE hu)
    exact ⟨hok2, r', e2, e1⟩
   case cells.cell t nn t' ty =>
    simp only [JU, Bool.and_eq_true, decide_eq_true_eq] at hok
    obtain ⟨⟨⟨e, ht⟩, hn⟩, hok2⟩ := hok
    subst e
    simp only [WC, Ag] at h1
    obtain ⟨u, hu, h1⟩ := h1
    obtain ⟨r', e1, e2⟩ := iH (P := P) hR ht hn h1 (PV hE hu)
    exact ⟨hok2, r', e2, e1⟩
  obtain ⟨hok', v', hv, hrun⟩ := key
  obtain ⟨vs', e1, e2⟩ := PW hR hE hok' h2
  refine ⟨v' :: vs', .cons hv e1, ?_⟩
  rw [List.mapM_cons]
  simp only [Sem.run_bind, hrun, e2, Result.andThen, Sem.run_pure]
 | [], _ :: _, _, h, _ => by simp [JU] at h
 | r :: _, [], _, h, _ => by cases r <;> simp [JU] at h
theorem Wq : ∀ {l l' : List Value}, CJ m l l' → BH m (Dc l) (if h : (⟨l'⟩ : Array Value).size = 1 then (⟨l'⟩ : Array Value)[0] else .tuple ⟨l'⟩)
 | [], [], _ => .tuple .nil
 | [v], [v'], .cons h .nil => h
 | _ :: _ :: _, _ :: _ :: _, .cons h (.cons h' t) => by
  rw [dif_neg (by simp)]
  exact .tuple (.cons h (.cons h' t))
theorem VU {P : Program} {tmps : Array Value} {nt : Nat} {fn : Func} (hR : Rl X m s w) (hE : CB m env tmps) {l : List IRes} {vs : List Value} (hok : JU P nt l fn.results.toList = true) (h : IK env s l = some vs) :
 ∃ v', (results fn tmps).run P w = .ok v' w ∧ BH m (Dc vs) v' := by
 obtain ⟨vs', e1, e2⟩ := PW (P := P) hR hE hok h
 refine ⟨_, ?_, Wq e1⟩
 have he : results fn tmps = (do let vs ← fn.results.mapM (resF tmps); pure (if h : vs.size = 1 then vs[0] else .tuple vs)) := by
  unfold results
  congr 1
 have hm : (fn.results.mapM (resF tmps)).run P w = .ok ⟨vs'⟩ w := by
  have : fn.results = fn.results.toList.toArray := by simp
  rw [this, List.mapM_toArray]
  simp [e2]
 rw [he, Sem.run_bind, hm]
 rfl
theorem O9 : ∀ (l : List Value) (i : Nat) (env : Env) (j : Nat), (Ar l i env).get j = if i ≤ j ∧ j < i + l.length then l[j - i]? else env.get j
 | [], i, env, j => by
  simp only [Ar, List.length_nil]
  rw [if_neg (by omega)]
 | v :: l, i, env, j => by
  show (Ar l (i + 1) (Tr.set env i v)).get j = _
  rw [O9 l (i + 1) _ j, Tr.get_set]
  simp only [List.length_cons]
  by_cases h1 : j = i
  · subst h1
    rw [if_neg (by omega), if_pos rfl, if_pos (by omega)]
    simp
  · by_cases h2 : i + 1 ≤ j ∧ j < i + 1 + l.length
    · rw [if_pos h2, if_pos (by omega), show j - i = (j - (i + 1)) + 1 by omega]
      simp
    · rw [if_neg h2, if_neg h1, if_neg (by omega)]
theorem VW {args args' : List Value} (h : CJ m args args') (k : Nat) : CB m (Ar args 0 .e) ((⟨args'⟩ : Array Value) ++ Array.replicate k undef) := by
 intro i v hi
 rw [O9] at hi
 split at hi
 · next hlt =>
   rw [Nat.sub_zero] at hi
   obtain ⟨v', h1, h2⟩ := h.get _ _ hi
   refine ⟨v', ?_, h2⟩
   have hl : i < args'.length := (List.getElem?_eq_some_iff.1 h1).1
   rw [Array.getElem?_append_left (by simpa using hl)]
   simpa using h1
 · simp at hi
theorem Rl.other (h : Rl X m s w) {r : Nat} (hr : ∀ b p, m b = some p → p.blk ≠ r) (hd : w.heap[r]? = some (.deferred (some []))) (w' : World) (hsz : w'.heap.size = w.heap.size) (hoth : ∀ k, k ≠ r → w'.heap[k]? = w.heap[k]?) : Rl X m s w' where
 obj := fun b p o hb ho => by
  obtain ⟨o', h1, h2⟩ := h.obj b p o hb ho
  exact ⟨o', by rw [hoth _ (hr b p hb)]; exact h1, h2⟩
 rng := fun b p hb => by rw [hsz]; exact h.rng b p hb
 inj := h.inj
 glob := h.glob
 fix := h.fix.frame (fun x hx => hoth _ fun e => by
  obtain ⟨⟨c, t, fr, h1, _⟩, _⟩ := h.fix x hx
  rw [e, hd] at h1
  cases h1) fun b q hb => .inl ⟨b, q, hb, rfl⟩
theorem MH {fn : Func} {tmps : Array Value} {R : Ending → World → Prop} {W : World} {S : AA} {M : Map} : ∀ (rs : List Nat) (w : World), rs.Nodup → (∀ r ∈ rs, W.heap.size ≤ r ∧ w.heap[r]? = some (.deferred (some [])) ∧ ∀ b p, m b = some p → p.blk ≠ r) →
 Rl X m s w → Step M S W m s w → (∀ w', Rl X m s w' → Step M S W m s w' → ∃ v, (results fn tmps).run X.P w' = .ok v w' ∧ R (.returned v) w') → LeavesInM Fence.wide n X.P fn tmps R (rs.map L8) .returning w
 | [], w, _, _, hR, hS, h => by
  obtain ⟨v, h1, h2⟩ := h w hR hS
  exact ⟨v, h1, h2⟩
 | r :: rs, w, hn, hrs, hR, hS, h => by
  obtain ⟨h1, h2, h3⟩ := hrs r (by simp)
  have hlt := FM h2
  have hn' := List.nodup_cons.1 hn
  refine ⟨by simp, .inl ⟨r, w.putObj r (.deferred none), rfl, run_takeDeferred h2, ?_⟩⟩
  refine MH rs _ hn'.2 (fun r' hr' => ?_) (hR.other h3 h2 _ (by simp) fun k hk => World.putObj_heap_other hk) ?_ h
  · obtain ⟨g1, g2, g3⟩ := hrs r' (by simp [hr'])
    refine ⟨g1, ?_, g3⟩
    rw [World.putObj_heap_other (fun e => hn'.1 (by rw [← e]; exact hr'))]
    exact g2
  · exact ⟨hS.le, hS.nx, hS.KP, by simpa using hS.size, hS.os, hS.tape, hS.output, fun k hk ht => by rw [World.putObj_heap_other (by omega)]; exact hS.frame k hk ht, hS.turned, hS.J8⟩
theorem iI {α : Type} {b : Bool} {x y : R α} {Q : α → Prop} (h : (cond b x y).all Q) (hy : ¬ y.all Q) : b = true ∧ x.all Q := by
 cases b with
 | false => exact absurd h hy
 | true => exact ⟨rfl, h⟩
theorem Ws (hX : Good X T) (hS : Gx X self) {N f : Nat} {Fi : BL} {fn : Func} {c : Code} (hf : X.P.funcs[f]? = some fn) (hb : fn.body = some c) (hok : BD X.P X.G X.TA X.TK Fi fn = true)
 {args : List Value} {Q : Value × AA → Prop} (h : (EL T self N Fi args s).all Q) {args' : List Value} (hR : Rl X m s w) (ha : CJ m args args') :
 CallsIn Fence.wide n X.P f ⟨args'⟩ w fun e w' => ∃ v s' v', e = .returned v' ∧ Q (v, s') ∧ Did X m s w v s' v' w' := by
 unfold EL at h
 obtain ⟨hlen, h⟩ := iI h (fun h => h)
 have hlen := beq_iff.1 hlen
 simp only [BD, Bool.and_eq_true, decide_eq_true_eq, hb] at hok
 obtain ⟨⟨hnp, hres⟩, hcode⟩ := hok
 have hal := ha.length
 have hsz : (((⟨args'⟩ : Array Value) ++ Array.replicate (fn.ntmps - (⟨args'⟩ : Array Value).size) undef)).size = fn.ntmps := by
  simp; omega
 refine callsIn_of_wp_marks hf hb trivial ?_
 have hst : St X fn.ntmps w.heap.size m (Ar args 0 .e) s { tmps := (⟨args'⟩ : Array Value) ++ Array.replicate (fn.ntmps - (⟨args'⟩ : Array Value).size) undef, defers := [] } w :=
  ⟨VW ha _, hR, hsz, ⟨[], rfl, List.nodup_nil, fun r hr => by simp at hr⟩, Nat.le_refl _⟩
 refine wpIn_mono (LD (n := n) hX hS N c Fi.body Fence.wide false .wide hcode _ s _ w m (AQ Fi) Q h hst) ?_
 rintro e a' w' ⟨ex, env', s', m', hr, hk, hst', hstep⟩
 have fin : (obR 32 (IK env' s' Fi.res) fun vs => .ok (Dc vs, s')).all Q ∨ (obR 33 (IK env' s' Fi.res) fun vs => .ok (Dc vs, s')).all Q →
  LeavesInM Fence.wide n X.P fn a'.tmps (fun e w' => ∃ v s' v', e = .returned v' ∧ Q (v, s') ∧ Did X m s w v s' v' w') a'.defers .returning w' := by
  intro hh
  have : ∃ vs, IK env' s' Fi.res = some vs ∧ Q (Dc vs, s') := by
   rcases hh with hh | hh
   · obtain ⟨vs, h1, h2⟩ := R.all_obR hh
     exact ⟨vs, h1, h2⟩
   · obtain ⟨vs, h1, h2⟩ := R.all_obR hh
     exact ⟨vs, h1, h2⟩
  obtain ⟨vs, h1, h2⟩ := this
  obtain ⟨rs, e1, e2, e3⟩ := hst'.marks
  rw [e1]
  refine MH (X := X) (m := m') (s := s') rs w' e2 e3 hst'.rl hstep fun w2 hR2 hS2 => ?_
  obtain ⟨v', g1, g2⟩ := VU (P := X.P) hR2 hst'.env hres h1
  exact ⟨v', g1, _, s', v', rfl, h2, ⟨⟨m', hR2, hS2, g2⟩⟩⟩
 cases hr with
 | normal => exact fin (.inl hk)
 | ret => exact fin (.inr hk)
 | exit id => exact hk.elim
theorem PX : ∀ {ps : List Nat} {args args' : List Value} {env LZ : Env} {tmps : Array Value}, IL env ps args = some LZ → CB m env tmps → (∀ t ∈ ps, t < tmps.size) → CJ m args args' →
 ps.length = args'.length ∧ CB m LZ ((ps.zip args').foldl (fun (tmps : Array Value) (x : Nat × Value) => tmps.setIfInBounds x.1 x.2) tmps) ∧ ((ps.zip args').foldl (fun (tmps : Array Value) (x : Nat × Value) => tmps.setIfInBounds x.1 x.2) tmps).size = tmps.size
 | [], [], _, env, LZ, tmps, h, hE, _, .nil => by
  simp [IL] at h; subst h
  exact ⟨rfl, hE, rfl⟩
 | t :: ps, v :: args, _, env, LZ, tmps, h, hE, hps, .cons hv ht => by
  simp only [IL] at h
  obtain ⟨h1, h2, h3⟩ := PX (tmps := tmps.setIfInBounds t _) h (hE.set hv (hps t (by simp))) (fun u hu => by simpa using hps u (by simp [hu])) ht
  refine ⟨by simp [h1], h2, by simpa using h3⟩
 | [], _ :: _, _, _, _, _, h, _, _, _ => by simp [IL] at h
 | _ :: _, [], _, _, _, _, h, _, _, _ => by simp [IL] at h
theorem VX (hX : Good X T) (hS : Gx X self) {N l : Nat} {args : List Value} {Q : Value × AA → Prop} (h : (Fe T self N l args s).all Q) {p : Place} {args' : List Value} (hR : Rl X m s w) (ha : CJ m args args') (hm : m l = some p) :
 ∃ f tmps x y, (Instr.yield p.blk ⟨args'⟩).run X.P w = .ok (.round p.blk f tmps x y) w ∧ RoundIn Fence.wide n X.P p.blk f tmps x y w fun e w' => ∃ v s' v', e = .returned v' ∧ Q (v, s') ∧ Did X m s w v s' v' w' := by
 unfold Fe Ot at h
 split at h
 · next pd env ps asg body hget =>
   obtain ⟨LZ, he1, h⟩ := R.all_obR h
   obtain ⟨o', ho1, ho2⟩ := hR.obj l p _ hm hget
   cases ho2 with
   | @loop _ _ _ _ _ _ pd' f1 O8 x1 y1 d1 hsh hpr hE hps ha1 hb1 =>
    obtain ⟨hl, hE1, hsz1⟩ := PX he1 hE hps ha
    have hy := run_yield (P := X.P) (args := ⟨args'⟩) ho1 (by simp [hl])
    have hfold : ((⟨ps⟩ : Array Nat).zip (⟨args'⟩ : Array Value)).foldl (fun tmps (t, a) => tmps.setIfInBounds t a) O8 = (ps.zip args').foldl (fun (tmps : Array Value) (x : Nat × Value) => tmps.setIfInBounds x.1 x.2) O8 := by
     rw [← Array.foldl_toList]
     simp
    simp only [] at hy
    rw [hfold] at hy
    refine ⟨_, _, _, _, hy, roundIn_of_wpIn trivial ?_⟩
    have hst : St X O8.size w.heap.size m LZ s { tmps := (ps.zip args').foldl (fun (tmps : Array Value) (x : Nat × Value) => tmps.setIfInBounds x.1 x.2) O8, defers := [] } w :=
     ⟨hE1, hR, hsz1, ⟨[], rfl, List.nodup_nil, fun r hr => by simp at hr⟩, Nat.le_refl _⟩
    refine wpIn_mono (LD (n := n) hX hS N x1 asg _ true (.round p.blk) ha1 _ s _ w m _ Q h hst) ?_
    rintro e a2 w2 ⟨ex, IQ, s2, m2, hr, hk, hst2, hstep2⟩
    cases hr with
    | ret => exact hk.elim
    | exit id => exact hk.elim
    | normal =>
     have hk' : (FH T self N l body IQ s2 (s2.get l)).all Q := hk
     unfold FH at hk'
     split at hk'
     · next p2 iJ ps2 asg2 body2 iK =>
       have hm2 := hstep2.le _ _ hm
       obtain ⟨o2, ho3, ho4⟩ := hst2.rl.obj l p _ hm2 iK
       cases ho4 with
       | @loop _ _ _ _ _ _ pd2 f2 tmps2 x2 y2 d2 hsh2 hpr2 hE2 hps2 ha2 hb2 =>
        have hlt := FM ho3
        obtain ⟨w3, hw3⟩ : ∃ w3, w3 = w2.putObj p.blk (.loop { state := .busy, pending := pd2, fn := f2, tmps := tmps2, params := ⟨ps2⟩, assign := x2, body := y2, defers := d2 }) := ⟨_, rfl⟩
        have hb3 := run_beginRound (P := X.P) ho3 rfl
        simp only [] at hb3
        rw [← hw3] at hb3
        refine ⟨w3, hb3, ?_⟩
        have hat : w3.heap[p.blk]? = some (.loop { state := .busy, pending := pd2, fn := f2, tmps := tmps2, params := ⟨ps2⟩, assign := x2, body := y2, defers := d2 }) := by rw [hw3]; exact World.putObj_heap_same hlt
        have hoth : ∀ k, k ≠ p.blk → w3.heap[k]? = w2.heap[k]? := fun k hk => by rw [hw3]; exact World.putObj_heap_other hk
        have hsz3 : w3.heap.size = w2.heap.size := by rw [hw3]; simp
        have hR3 : Rl X m2 (s2.put l (.loop .busy p2 iJ ps2 asg2 body2)) w3 := hst2.rl.put hm2 iK rfl w3 hsz3 hat hoth (.loop hsh2 hpr2 hE2 hps2 ha2 hb2)
        have hS3 : Step m2 s2 w2 m2 (s2.put l (.loop .busy p2 iJ ps2 asg2 body2)) w3 := Rl.Ij hm2 iK rfl w3 hsz3 hoth (by rw [hw3]; rfl) (by rw [hw3]; rfl) (by rw [hw3]; rfl)
        have hst3 : St X O8.size w.heap.size m2 IQ (s2.put l (.loop .busy p2 iJ ps2 asg2 body2)) a2 w3 := ⟨hst2.env, hR3, hst2.sz, hst2.marks.step hS3, Nat.le_trans hst2.low hS3.size⟩
        refine wpIn_mono (LD (n := n) hX hS N y1 body _ true (.round p.blk) hb1 IQ _ a2 w3 m2 _ Q hk' hst3) ?_
        rintro e4 a4 w4 ⟨ex4, env4, s4, m4, hr4, hk4, hst4, iL⟩
        have hm4 := iL.le _ _ hm2
        have hS04 := (hstep2.trans hS3).trans iL
        replace hk4 : (endRound l ex4 s4 (s4.get l)).all Q := hk4
        unfold endRound at hk4
        split at hk4
        · next p5 env5 ps5 asg5 body5 iM =>
          obtain ⟨o5, ho5, ho6⟩ := hst4.rl.obj l p _ hm4 iM
          cases ho6 with
          | @loop _ _ _ _ _ _ pd6 f6 tmps6 x6 y6 d6 hsh6 hpr6 hE6 hps6 ha6 hb6 =>
           have hlt4 := FM ho5
           have fin : ∀ (jump : Option Code) (pe : Option Un) (st6 : LoopState), st6 = (if jump.isNone then .ready else .done) → YJ pe jump → Q (.bool jump.isNone, s4.put l (.loop st6 pe env5 ps5 asg5 body5)) →
            ∃ v w', (Instr.endRound p.blk jump).run X.P w4 = .ok v w' ∧ ∃ v0 s' v', Ending.returned v = .returned v' ∧ Q (v0, s') ∧ Did X m s w v0 s' v' w' := by
            intro jump pe st6 hst6 hpe hq
            obtain ⟨w7, hw7⟩ : ∃ w7, w7 = w4.putObj p.blk (.loop { state := st6, pending := jump, fn := f6, tmps := tmps6, params := ⟨ps5⟩, assign := x6, body := y6, defers := d6 }) := ⟨_, rfl⟩
            have he7 := run_endRound (P := X.P) jump ho5
            simp only [← hst6] at he7
            rw [← hw7] at he7
            have hat7 : w7.heap[p.blk]? = some (.loop { state := st6, pending := jump, fn := f6, tmps := tmps6, params := ⟨ps5⟩, assign := x6, body := y6, defers := d6 }) := by rw [hw7]; exact World.putObj_heap_same hlt4
            have hoth7 : ∀ k, k ≠ p.blk → w7.heap[k]? = w4.heap[k]? := fun k hk => by rw [hw7]; exact World.putObj_heap_other hk
            have hsz7 : w7.heap.size = w4.heap.size := by rw [hw7]; simp
            have hR7 : Rl X m4 (s4.put l (.loop st6 pe env5 ps5 asg5 body5)) w7 := hst4.rl.put hm4 iM rfl w7 hsz7 hat7 hoth7 (.loop hsh6 hpe hE6 hps6 ha6 hb6)
            have hS7 : Step m4 s4 w4 m4 (s4.put l (.loop st6 pe env5 ps5 asg5 body5)) w7 := Rl.Ij hm4 iM rfl w7 hsz7 hoth7 (by rw [hw7]; rfl) (by rw [hw7]; rfl) (by rw [hw7]; rfl)
            exact ⟨_, w7, he7, _, _, _, rfl, hq, ⟨⟨m4, hR7, hS04.trans hS7, .bool _⟩⟩⟩
           cases hr4 with
           | normal => exact fin none none .ready rfl trivial hk4
           | ret => exact fin (some .ret) (some .ret) .done rfl trivial hk4
           | exit id => exact fin (some (.exit id)) (some (.exit id)) .done rfl rfl hk4
        · exact hk4.elim
     · exact hk'.elim
 · exact h.elim
def FN (X : Cx) (f : Nat) (p : Prim) : Prop :=
 (∃ fn c, X.P.funcs[f]? = some fn ∧ fn.body = some c ∧ (fn.name == "runtime.NumGoroutine") = false) ∧
 ∀ (args : List Value) (s : AA) (r : Value × AA), Ii p args s = some r → ∀ (m : Map) (w : World) (args' : List Value) (n : Nat), Rl X m s w → CJ m args args' →
  CallsIn Fence.wide n X.P f ⟨args'⟩ w fun e w' => ∃ v', e = .returned v' ∧ Did X m s w r.1 r.2 v' w'
structure MI (X : Cx) (tab : Tab) : Prop where
 code : ∀ f Fi, tab f = some (.code Fi) → ∃ fn c, X.P.funcs[f]? = some fn ∧ fn.body = some c ∧ (fn.name == "runtime.NumGoroutine") = false ∧ BD X.P X.G X.TA X.TK Fi fn = true
 Jc : ∀ f p, tab f = some (.Jc p) → FN X f p
theorem OA (hX : Good X T) {tab : Tab} (hT : MI X tab) : ∀ N, Gx X (AU T tab N)
 | 0 => ⟨fun _ _ _ _ h => h.elim, fun _ _ _ _ h => h.elim⟩
 | N + 1 => by
  have ih := OA hX hT N
  refine ⟨fun f args s Q h => ?_, fun l args s Q h m w p args' n hR ha hm => ?_⟩
  · have h' : (Ou T (AU T tab N) N f args s (tab f)).all Q := h
    unfold Ou at h'
    split at h'
    · next Fi hfi =>
      obtain ⟨fn, c, h1, h2, h3, h4⟩ := hT.code f Fi hfi
      exact ⟨⟨fn, c, h1, h2, h3⟩, fun m w args' n hR ha => Ws hX ih h1 h2 h4 h' hR ha⟩
    · next p hp =>
      obtain ⟨h1, h2⟩ := hT.Jc f p hp
      refine ⟨h1, fun m w args' n hR ha => ?_⟩
      obtain ⟨r, hr, hq⟩ := R.all_orBad h'
      refine (h2 args s r hr m w args' n hR ha).mono ?_
      rintro e w' ⟨v', rfl, hd⟩
      exact ⟨_, _, v', rfl, hq, hd⟩
    · exact h'.elim
  · have h' : (Fe T (AU T tab N) N l args s).all Q := h
    exact VX hX ih h' hR ha hm
end
end Go.Im

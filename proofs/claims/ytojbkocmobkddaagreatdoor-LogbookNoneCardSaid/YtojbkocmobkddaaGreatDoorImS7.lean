/- The ideal machine: a pure operation stands for the model's. -/
import Derived.Test.YtojbkocmobkddaaGreatDoorImS6
namespace Go.Im
section
variable {X : Cx} {T : MT} {m : Map} {env : Env} {a : Act}

theorem evO_rel (hE : EnvRel m env a.tmps) (hG : GRel X.G m) {x y : Option Operand} {v : Option Value} (h : opEqO X.G x y = true) (hv : evO env x = some v) : OptRel m v (y.map a.eval) := by
  cases x with
  | none =>
    cases y with
    | none => simp [evO] at hv; subst hv; trivial
    | some y => simp [opEqO] at h
  | some x =>
    cases y with
    | none => simp [opEqO] at h
    | some y =>
      simp only [evO, ob_eq_some] at hv
      obtain ⟨u, hu, hv⟩ := hv
      simp at hv; subst hv
      exact ev_rel hE hG h hu

theorem pNilc_sim {P : Program} (hT : MTok P T) {y : Operand} {u r : Value} {dst : Option Nat} {type : Nat} {pos : String} {after : Array Edge} {guard : Option (Nat × Bool)} (h : pNilc T u = some r) (hx : VRel m u (a.eval y)) (w : World) :
    ∃ r', (execOp a.eval ⟨dst, .nilCheck y, type, pos, after, guard⟩).run P w = .ok (.value r') w ∧ VRel m r r' := by
  generalize hv : a.eval y = v at hx
  cases hx <;> simp only [pNilc] at h <;> try (simp at h; done)
  case ptr b o p hm =>
    simp at h; subst h
    exact ⟨_, by simp [execOp, hv], .ptr hm⟩
  case iface t w1 w2 hr =>
    simp at h; subst h
    exact ⟨_, by simp [execOp, hv], .iface t hr⟩
  case func f f' la la' lb lb' hf ha hb =>
    cases hf with
    | func f =>
      simp at h; subst h
      exact ⟨_, by simp [execOp, hv], .func (.func f) ha hb⟩
    | yield hl =>
      simp at h; subst h
      exact ⟨_, by simp [execOp, hv], .func (.yield hl) ha hb⟩
    | method n =>
      have hcase : ∃ t b o, la = [.iface t (.pointer (some ⟨b, o, none⟩))] ∧ lb = [] ∧ (∃ f, T.find t n = some f) ∧ r = .func (.method n) ⟨la⟩ ⟨lb⟩ := by
        match la, lb, h with
        | [.iface t (.pointer (some ad))], [], h =>
          simp only [ob_eq_some] at h
          obtain ⟨f, h1, h2⟩ := h
          simp at h2
          cases ha with
          | cons h0 _ =>
            cases h0 with
            | iface _ h0 =>
              cases h0 with
              | ptr h0 => exact ⟨t, _, _, rfl, rfl, ⟨f, h1⟩, h2.symm⟩
      obtain ⟨t, b, o, rfl, rfl, ⟨f, hf⟩, rfl⟩ := hcase
      refine ⟨_, ?_, .func (.method n) ha hb⟩
      cases ha with
      | cons h0 ht =>
        cases ht
        cases h0 with
        | iface _ h0 =>
          cases h0 with
          | ptr h0 =>
            have := fun ad => (hT t n f hf ad w).2
            simp [execOp, hv, this]

theorem map_places {a : Act} (parts : Array (Nat × Operand)) : (parts.map fun (i, x) => (i, a.eval x)).toList = parts.toList.map fun q => (q.1, a.eval q.2) := by
  simp

set_option maxHeartbeats 4000000 in
theorem sim_builtinP {P : Program} {G : List Nat} {o : POp} {b : Builtin} {c : Call} {dst : Option Nat} {type : Nat} {pos : String} {after : Array Edge} {guard : Option (Nat × Bool)} (hc : c.callee = .builtin b)
    (hok : okBuiltinP P X.G o b c = true) {v : Value} (h : iPure T env o = some v) (hE : EnvRel m env a.tmps) (hG : GRel X.G m) (w : World) :
    ∃ v', (execOp a.eval ⟨dst, .call c, type, pos, after, guard⟩).run P w = .ok (.value v') w ∧ VRel m v v' := by
  obtain ⟨cal, ⟨args⟩, ⟨ats⟩⟩ := c
  simp only at hc
  subst hc
  have hargs : ∀ f : Operand → Value, ((⟨args⟩ : Array Operand).map f) = ⟨args.map f⟩ := fun f => by apply Array.ext'; simp
  unfold okBuiltinP at hok
  split at hok
  · next n y t e1 e2 =>
    simp only at e1 e2
    subst e1 e2
    split at hok
    · next m' e hu =>
      simp at hok
      subst hok
      have hu := arElem_some hu
      have hv : v = .int .i64 (m' : Int) := (Option.some.inj h).symm
      subst hv
      refine ⟨_, ?_, .int _ _⟩
      simp [execOp, resolve, invoke, builtin, Builtin.len_, run_underlying hu, hargs, goInt]
    · simp at hok
  · next x y t e1 e2 =>
    simp only at e1 e2
    subst e1 e2
    simp at hok
    have hu := isStr_true hok.1
    replace h : ob (ev env x) pLenS = some v := h
    rw [ob_eq_some] at h
    obtain ⟨u, hu', h⟩ := h
    have hr := ev_rel hE hG hok.2 hu'
    generalize hz : a.eval y = z at hr
    cases hr <;> simp [pLenS] at h
    subst h
    refine ⟨_, ?_, .int _ _⟩
    simp [execOp, resolve, invoke, builtin, Builtin.len_, run_underlying hu, hargs, goInt, hz, length_toL]
  · next x y t e1 e2 =>
    simp only at e1 e2
    subst e1 e2
    simp at hok
    obtain ⟨e, he⟩ := Option.isSome_iff_exists.1 hok.1
    have hu := slElem_some he
    replace h : ob (ev env x) pLenL = some v := h
    rw [ob_eq_some] at h
    obtain ⟨u, hu', h⟩ := h
    have hr := ev_rel hE hG hok.2 hu'
    generalize hz : a.eval y = z at hr
    cases hr <;> simp [pLenL] at h
    all_goals
      subst h
      refine ⟨_, ?_, .int _ _⟩
      simp [execOp, resolve, invoke, builtin, Builtin.len_, run_underlying hu, goInt, hz]
  · next x y t e1 e2 =>
    simp only at e1 e2
    subst e1 e2
    simp at hok
    obtain ⟨e, he⟩ := Option.isSome_iff_exists.1 hok.1
    have hu := slElem_some he
    replace h : ob (ev env x) pCap = some v := h
    rw [ob_eq_some] at h
    obtain ⟨u, hu', h⟩ := h
    have hr := ev_rel hE hG hok.2 hu'
    generalize hz : a.eval y = z at hr
    have key : ∀ (base base' : Option Addr) (n c : Nat), (cond (Nat.blt c UNK) (some (Value.int .i64 (.ofNat c))) none) = some v → z = .slice base' n c → ∃ v', (execOp a.eval ⟨dst, .call ⟨.builtin .cap, ⟨[y]⟩, ⟨[t]⟩⟩, type, pos, after, guard⟩).run P w = .ok (.value v') w ∧ VRel m v v' := by
      intro base base' n c h hz'
      cases hb : Nat.blt c UNK with
      | false => rw [hb] at h; simp at h
      | true =>
        rw [hb] at h
        have h := (Option.some.inj h).symm
        subst h
        refine ⟨_, ?_, .int _ _⟩
        simp [execOp, resolve, invoke, builtin, Builtin.cap_, run_underlying hu, hargs, goInt, hz, hz']
    cases hr <;> simp only [pCap] at h <;> try (simp at h; done)
    · exact key none none _ _ h rfl
    · exact key none _ _ _ h rfl
    · rw [show Nat.blt UNK UNK = false from rfl] at h; simp at h
    · rw [show Nat.blt UNE UNK = false from rfl] at h; simp at h
  · next xs =>
    replace h : ob (evs env xs) (mmA true) = some v := h
    rw [ob_eq_some] at h
    obtain ⟨u, hu', h⟩ := h
    have hr := evs_rel hE hG hok hu'
    obtain ⟨r', h1, h2⟩ := mmA_sim (P := P) (w := w) (ts := ⟨ats⟩) (t := type) h hr
    refine ⟨r', ?_, h2⟩
    have h1' : (Builtin.max_ ⟨ats⟩ type ⟨args.map a.eval⟩).run P w = .ok r' w := h1
    simp [execOp, resolve, invoke, builtin, hargs, h1']
  · next xs =>
    replace h : ob (evs env xs) (mmA false) = some v := h
    rw [ob_eq_some] at h
    obtain ⟨u, hu', h⟩ := h
    have hr := evs_rel hE hG hok hu'
    obtain ⟨r', h1, h2⟩ := mmA_sim (P := P) (w := w) (ts := ⟨ats⟩) (t := type) h hr
    refine ⟨r', ?_, h2⟩
    have h1' : (Builtin.min_ ⟨ats⟩ type ⟨args.map a.eval⟩).run P w = .ok r' w := h1
    simp [execOp, resolve, invoke, builtin, hargs, h1']
  · simp at hok

theorem ob1 {x : Operand} {f : Value → Option Value} {v : Value} (h : ob (ev env x) f = some v) : ∃ u, ev env x = some u ∧ f u = some v := ob_eq_some.1 h

theorem izero_some {P : Program} {t : Nat} {z : Value} (h : izero P t = some z) : ∃ i, P.info? t = some i ∧ i.zero = some z := by
  unfold izero at h
  cases hi : P.info? t with
  | none => simp [hi] at h
  | some i => simp [hi] at h; exact ⟨i, rfl, h⟩
theorem isz_some {P : Program} {t n : Nat} (h : isz P t = some n) : ∃ i, P.info? t = some i ∧ i.size = n := by
  unfold isz at h
  cases hi : P.info? t with
  | none => simp [hi] at h
  | some i => simp [hi] at h; exact ⟨i, rfl, h⟩

set_option maxHeartbeats 8000000 in
theorem sim_pure {P : Program} {TA : List Nat} (hTA : ∀ t ∈ TA, EqAgg P t) (hT : MTok P T) {o : POp} {op : Op} {dst : Option Nat} {type : Nat} {pos : String} {after : Array Edge} {guard : Option (Nat × Bool)}
    (hok : okP P X.G TA o op = true) {v : Value} (h : iPure T env o = some v) (hE : EnvRel m env a.tmps) (hG : GRel X.G m) (w : World) :
    ∃ v', (execOp a.eval ⟨dst, op, type, pos, after, guard⟩).run P w = .ok (.value v') w ∧ VRel m v v' := by
  by_cases hcall : ∃ c, op = .call c
  · obtain ⟨c, rfl⟩ := hcall
    have hok' : (match c.callee with | .builtin b => okBuiltinP P X.G o b c | _ => false) = true := hok
    split at hok'
    · next b hb => exact sim_builtinP (G := X.G) hb hok' h hE hG w
    · simp at hok'
  unfold okP at hok
  split at hok
  · next c => exact absurd ⟨c, rfl⟩ hcall
  split at hok
  · exact ⟨_, by simp [execOp], ev_rel hE hG hok h⟩
  · exact ⟨_, by simp [execOp], ev_rel hE hG hok h⟩
  · next c x y c' x' y' _ =>
    simp at hok
    obtain ⟨u, h1, h2⟩ := ob1 h
    obtain ⟨t, e, hr⟩ := pPick_sim h2 (ev_rel hE hG hok.1.1 h1) (fun v hv => ev_rel hE hG hok.1.2 hv) (fun v hv => ev_rel hE hG hok.2 hv)
    refine ⟨_, ?_, hr⟩
    simp [execOp, e, asBool]
  · next x y _ =>
    obtain ⟨u, h1, h2⟩ := ob1 h
    exact pNilc_sim hT h2 (ev_rel hE hG hok h1) w
  · next o x y o' t x' y' t' _ =>
    simp at hok
    obtain ⟨⟨rfl, hx⟩, hy⟩ := hok
    obtain ⟨u, v', h1, h2, h3⟩ := ev2_some h
    obtain ⟨e1, e2, e3⟩ := binV_sim h3 (ev_rel hE hG hx h1) (ev_rel hE hG hy h2) P t x' y' w
    exact ⟨_, by simp [execOp, e1, e2], e3⟩
  · next k t neg x y o' t' x' y' t2 _ =>
    simp only [Bool.and_eq_true, decide_eq_true_eq] at hok
    obtain ⟨⟨⟨⟨rfl, rfl⟩, hk⟩, hx⟩, hy⟩ := hok
    obtain ⟨u, v', h1, h2, h3⟩ := ev2_some h
    obtain ⟨e1, e2⟩ := eqs_sim (X := ⟨P, X.G, TA, [], []⟩) hTA hk rfl rfl h3 (ev_rel hE hG hx h1) (ev_rel hE hG hy h2) w
    refine ⟨_, ?_, e2⟩
    simp only [execOp]
    rw [Sem.run_bind, e1]
    simp [Result.andThen]
  · next o x o' t y _ =>
    simp at hok
    obtain ⟨rfl, hx⟩ := hok
    obtain ⟨u, h1, h2⟩ := ob1 h
    obtain ⟨r', e1, e2⟩ := unV_sim (P := P) (w := w) h2 (ev_rel hE hG hx h1)
    exact ⟨r', by simp [execOp, e1], e2⟩
  · next k x src dst y _ =>
    simp at hok
    obtain ⟨⟨h1, h2⟩, hx⟩ := hok
    obtain ⟨u, h3, h4⟩ := ob1 h
    obtain ⟨r', e1, e2⟩ := pCint_sim (w := w) h1 (isI_some h2) h4 (ev_rel hE hG hx h3)
    exact ⟨r', by simp [execOp, e1], e2⟩
  · next x src dst y _ =>
    simp at hok
    obtain ⟨⟨h1, h2⟩, hx⟩ := hok
    obtain ⟨u, h3, h4⟩ := ob1 h
    obtain ⟨r', e1, e2⟩ := pCstr_sim (w := w) h1 (isStr_true h2) h4 (ev_rel hE hG hx h3)
    exact ⟨r', by simp [execOp, e1], e2⟩
  · next t x t' y _ =>
    simp at hok
    obtain ⟨⟨rfl, h2⟩, hx⟩ := hok
    obtain ⟨u, h3, h4⟩ := ob1 h
    simp at h4; subst h4
    refine ⟨_, ?_, .iface t (ev_rel hE hG hx h3)⟩
    cases hd : P.underlying t with
    | none => simp [hd, notI] at h2
    | some d => cases d <;> first | (simp [hd, notI] at h2; done) | simp [execOp, Instr.makeInterface, run_underlying hd]
  · next fn xs ys fn' xs' ys' _ =>
    simp at hok
    obtain ⟨⟨h1, h2⟩, h3⟩ := hok
    replace h : ob (evs env xs) (fun u => ob (evs env ys) fun v => some (.func fn ⟨u⟩ ⟨v⟩)) = some v := h
    rw [ob_eq_some] at h
    obtain ⟨u, hu, h⟩ := h
    rw [ob_eq_some] at h
    obtain ⟨z, hz, h⟩ := h
    simp at h; subst h
    refine ⟨.func fn' ⟨xs'.toList.map a.eval⟩ ⟨ys'.toList.map a.eval⟩, ?_, .func ?_ (evs_rel hE hG h2 hu) (evs_rel hE hG h3 hz)⟩
    · have e : ∀ xs : Array Operand, (⟨xs.toList.map a.eval⟩ : Array Value) = xs.map a.eval := fun xs => by apply Array.ext'; simp
      simp [execOp, Instr.makeFunc, e]
    · cases fn <;> cases fn' <;> simp [okFn] at h1 <;> subst h1 <;> constructor
  · next z ps t parts _ =>
    obtain ⟨l, hl, c, hf, hv⟩ : ∃ l, evP env ps = some l ∧ ∃ c, fill z l = some c ∧ v = .agg ⟨c⟩ := by
      replace h : ob (evP env ps) (fun l => ob (fill z l) fun c => some (.agg ⟨c⟩)) = some v := h
      rw [ob_eq_some] at h
      obtain ⟨l, hl, h⟩ := h
      rw [ob_eq_some] at h
      obtain ⟨c, hc, h⟩ := h
      simp at h
      exact ⟨l, hl, c, hc, h.symm⟩
    subst hv
    have fin : ∀ {place : Nat → Option (Nat × Nat)} {zv : Value}, cEqL z zv.cells.toList = true → okParts X.G place ps parts.toList = true →
        (∀ c', Instr.fill place zv.cells (parts.map fun (i, x) => (i, a.eval x)).toList = some c' → P.built t (parts.map fun (i, x) => (i, a.eval x)).toList = some c') →
        ∃ v', (execOp a.eval ⟨dst, .build t parts, type, pos, after, guard⟩).run P w = .ok (.value v') w ∧ VRel m (.agg ⟨c⟩) v' := by
      intro place zv hz hp hb
      obtain ⟨l', rfl, hlen, hall⟩ := evP_rel hE hG hp hl
      obtain ⟨c', h1, h2⟩ := fill_rel hlen hall (cEqL_rel (m := m) hz).2 hf
      rw [← map_places] at h1
      have := run_build w t (parts.map fun (i, x) => (i, a.eval x)) c' (hb c' h1)
      refine ⟨.agg c', ?_, ?_⟩
      · simp only [execOp]
        rw [Sem.run_bind, this]
        simp [Result.andThen]
      · cases c'; exact .agg h2
    split at hok
    · next zv fs hz hu =>
      split at hok
      · next pl hpl =>
        simp only [Bool.and_eq_true] at hok
        refine fin hok.1 hok.2 fun c' hc' => ?_
        obtain ⟨i, hi, hiz⟩ := izero_some hz
        unfold Program.built
        simp only [hi, hu, hiz]
        unfold fieldPlaces at hpl
        simp only [hpl]
        exact hc'
      · simp at hok
    · next zv n e hz hu =>
      split at hok
      · next n' hn =>
        simp at hok
        refine fin hok.1 hok.2 fun c' hc' => ?_
        obtain ⟨i, hi, hiz⟩ := izero_some hz
        obtain ⟨j, hj, hjs⟩ := isz_some hn
        unfold Program.built
        simp only [hi, hu, hiz, hj, hjs]
        exact hc'
      · simp at hok
    · simp at hok
  · next off x s y f _ =>
    split at hok
    · next fs hfs =>
      split at hok
      · next fl hfl =>
        simp only [Bool.and_eq_true, decide_eq_true_eq] at hok
        obtain ⟨⟨h1, h2⟩, hx⟩ := hok
        split at h2
        · next n hn =>
          simp at h2
          obtain ⟨u, h3, h4⟩ := ob1 h
          obtain ⟨r', e1, e2⟩ := pFaddr_sim (w := w) (structFs_some hfs) hfl h1 hn h2 h4 (ev_rel hE hG hx h3)
          exact ⟨r', by simp [execOp, e1], e2⟩
        · simp at h2
      · simp at hok
    · simp at hok
  · next agg off n x s y f _ =>
    split at hok
    · next fs hfs =>
      split at hok
      · next fl hfl =>
        simp only [Bool.and_eq_true, decide_eq_true_eq] at hok
        obtain ⟨⟨⟨h1, h2⟩, h3⟩, hx⟩ := hok
        obtain ⟨u, h4, h5⟩ := ob1 h
        obtain ⟨r', e1, e2⟩ := pFld_sim (w := w) (structFs_some hfs) hfl h1 h2 h3 h5 (ev_rel hE hG hx h4)
        exact ⟨r', by simp [execOp, e1], e2⟩
      · simp at hok
    · simp at hok
  · next n x i t x' i' _ =>
    split at hok
    · next e he =>
      simp only [Bool.and_eq_true, decide_eq_true_eq] at hok
      obtain ⟨⟨h1, hx⟩, hi⟩ := hok
      obtain ⟨u, v', h2, h3, h4⟩ := ev2_some h
      obtain ⟨r', e1, e2⟩ := pIadS_sim (w := w) (slElem_some he) h1 h4 (ev_rel hE hG hx h2) (ev_rel hE hG hi h3)
      exact ⟨r', by simp [execOp, e1], e2⟩
    · simp at hok
  · next len n x i t x' i' _ =>
    split at hok
    · next m' e he =>
      simp only [Bool.and_eq_true, decide_eq_true_eq] at hok
      obtain ⟨⟨⟨rfl, h1⟩, hx⟩, hi⟩ := hok
      obtain ⟨u, v', h2, h3, h4⟩ := ev2_some h
      obtain ⟨r', e1, e2⟩ := pIadA_sim (w := w) (arElem_some he) h1 h4 (ev_rel hE hG hx h2) (ev_rel hE hG hi h3)
      exact ⟨r', by simp [execOp, e1], e2⟩
    · simp at hok
  · next x i t x' i' _ =>
    simp only [Bool.and_eq_true, decide_eq_true_eq] at hok
    obtain ⟨⟨h1, hx⟩, hi⟩ := hok
    obtain ⟨u, v', h2, h3, h4⟩ := ev2_some h
    obtain ⟨r', e1, e2⟩ := pIdxS_sim (w := w) (isStr_true h1) h4 (ev_rel hE hG hx h2) (ev_rel hE hG hi h3)
    exact ⟨r', by simp [execOp, e1], e2⟩
  · next agg len n x i t x' i' _ =>
    split at hok
    · next m' e he =>
      simp only [Bool.and_eq_true, decide_eq_true_eq] at hok
      obtain ⟨⟨⟨⟨rfl, h1⟩, h1'⟩, hx⟩, hi⟩ := hok
      obtain ⟨u, v', h2, h3, h4⟩ := ev2_some h
      obtain ⟨r', e1, e2⟩ := pIdxA_sim (w := w) (arElem_some he) h1 h1' h4 (ev_rel hE hG hx h2) (ev_rel hE hG hi h3)
      exact ⟨r', by simp [execOp, e1], e2⟩
    · simp at hok
  · next x lo hi t x' lo' hi' _ =>
    simp only [Bool.and_eq_true, decide_eq_true_eq] at hok
    obtain ⟨⟨⟨h1, hx⟩, hlo⟩, hhi⟩ := hok
    replace h : ob (evO env lo) (fun l => ob (evO env hi) fun h => ob (ev env x) (pSlStr l h)) = some v := h
    simp only [ob_eq_some] at h
    obtain ⟨l, el, hh, eh, u, eu, h⟩ := h
    obtain ⟨r', e1, e2⟩ := pSlStr_sim (w := w) (isStr_true h1) h (ev_rel hE hG hx eu) (evO_rel hE hG hlo el) (evO_rel hE hG hhi eh)
    exact ⟨r', by simp [execOp, e1], e2⟩
  · next len n x lo hi t x' lo' hi' _ =>
    split at hok
    · next m' e he =>
      simp only [Bool.and_eq_true, decide_eq_true_eq] at hok
      obtain ⟨⟨⟨⟨⟨rfl, hl⟩, h1⟩, hx⟩, hlo⟩, hhi⟩ := hok
      replace h : ob (evO env lo) (fun l => ob (evO env hi) fun h => ob (ev env x) (pSlArr m' n l h)) = some v := h
      simp only [ob_eq_some] at h
      obtain ⟨l, el, hh, eh, u, eu, h⟩ := h
      obtain ⟨r', e1, e2⟩ := pSlArr_sim (w := w) (arElem_some he) hl h1 h (ev_rel hE hG hx eu) (evO_rel hE hG hlo el) (evO_rel hE hG hhi eh)
      exact ⟨r', by simp [execOp, e1], e2⟩
    · simp at hok
  · next t z ok x y t0 t' ok' _ =>
    simp only [Bool.and_eq_true, decide_eq_true_eq] at hok
    obtain ⟨⟨⟨⟨rfl, rfl⟩, h1⟩, hz⟩, hx⟩ := hok
    split at hz
    · next zv hzv =>
      obtain ⟨rfl, hzr⟩ := cEq_rel (m := m) hz
      obtain ⟨u, h3, h4⟩ := ob1 h
      obtain ⟨r', e1, e2⟩ := pTas_sim (t0 := t0) (w := w) h1 hzv hzr h4 (ev_rel hE hG hx h3)
      exact ⟨r', by simp [execOp, e1], e2⟩
    · simp at hz
  · next x i y j _ =>
    simp at hok
    obtain ⟨rfl, hx⟩ := hok
    obtain ⟨u, h3, h4⟩ := ob1 h
    obtain ⟨r', e1, e2⟩ := pExt_sim (P := P) (w := w) h4 (ev_rel hE hG hx h3)
    exact ⟨r', by simp [execOp, e1], e2⟩
  · simp at hok
end
end Go.Im

/- The ideal machine: a pure operation stands for the model's. -/
import Derived.Test.YtojbkocmobkddaaGreatDoorImS6
set_option linter.all false
namespace Go.Im
section
variable {X : Cx} {T : MT} {m : Map} {env : Env} {a : Act}
theorem JC (hE : CB m env a.tmps) (hG : OY X.G m) {x y : Option Operand} {v : Option Value} (h : Je X.G x y = true) (hv : evO env x = some v) : Ey m v (y.map a.eval) := by
 cases x with
 | none =>
  cases y with
  | none => simp [evO] at hv; subst hv; trivial
  | some y => simp [Je] at h
 | some x =>
  cases y with
  | none => simp [Je] at h
  | some y =>
   simp only [evO, Ag] at hv
   obtain ⟨u, hu, hv⟩ := hv
   simp at hv; subst hv
   exact Bd hE hG h hu
theorem Yz {P : Program} (hT : VB P T) {y : Operand} {u r : Value} {dst : Option Nat} {type : Nat} {pos : String} {after : Array Edge} {guard : Option (Nat × Bool)} (h : BA T u = some r) (hx : BH m u (a.eval y)) (w : World) :
 ∃ r', (execOp a.eval ⟨dst, .nilCheck y, type, pos, after, guard⟩).run P w = .ok (.value r') w ∧ BH m r r' := by
 generalize hv : a.eval y = v at hx
 cases hx <;> simp only [BA] at h <;> try (simp at h; done)
 case ptr b o p hm =>
  simp at h; subst h
  exact ⟨_, by simp [execOp, hv], .ptr hm⟩
 case iface t w1 w2 hr =>
  simp at h; subst h
  exact ⟨_, by simp [execOp, hv], .iface t hr⟩
 case func f f' la la' lb lb' hf ha hb =>
  cases hf with
  | func f =>
   simp at h; subst h
   exact ⟨_, by simp [execOp, hv], .func (.func f) ha hb⟩
  | yield hl =>
   simp at h; subst h
   exact ⟨_, by simp [execOp, hv], .func (.yield hl) ha hb⟩
  | method n =>
   have hcase : ∃ t b o, la = [.iface t (.pointer (some ⟨b, o, none⟩))] ∧ lb = [] ∧ (∃ f, T.find t n = some f) ∧ r = .func (.method n) ⟨la⟩ ⟨lb⟩ := by
    match la, lb, h with
    | [.iface t (.pointer (some ad))], [], h =>
     simp only [Ag] at h
     obtain ⟨f, h1, h2⟩ := h
     simp at h2
     cases ha with
     | cons h0 _ =>
      cases h0 with
      | iface _ h0 =>
       cases h0 with
       | ptr h0 => exact ⟨t, _, _, rfl, rfl, ⟨f, h1⟩, h2.symm⟩
   obtain ⟨t, b, o, rfl, rfl, ⟨f, hf⟩, rfl⟩ := hcase
   refine ⟨_, ?_, .func (.method n) ha hb⟩
   cases ha with
   | cons h0 ht =>
    cases ht
    cases h0 with
    | iface _ h0 =>
     cases h0 with
     | ptr h0 =>
      have := fun ad => (hT t n f hf ad w).2
      simp [execOp, hv, this]
theorem P8 {a : Act} (parts : Array (Nat × Operand)) : (parts.map fun (i, x) => (i, a.eval x)).toList = parts.toList.map fun q => (q.1, a.eval q.2) := by
 simp
set_option maxHeartbeats 4000000 in
theorem Tz {P : Program} {G : List Nat} {o : POp} {b : Builtin} {c : Call} {dst : Option Nat} {type : Nat} {pos : String} {after : Array Edge} {guard : Option (Nat × Bool)} (hc : c.callee = .builtin b)
 (hok : J5 P X.G o b c = true) {v : Value} (h : RG T env o = some v) (hE : CB m env a.tmps) (hG : OY X.G m) (w : World) :
 ∃ v', (execOp a.eval ⟨dst, .call c, type, pos, after, guard⟩).run P w = .ok (.value v') w ∧ BH m v v' := by
 obtain ⟨cal, ⟨args⟩, ⟨ats⟩⟩ := c
 simp only at hc
 subst hc
 have hargs : ∀ f : Operand → Value, ((⟨args⟩ : Array Operand).map f) = ⟨args.map f⟩ := fun f => by apply Array.ext'; simp
 unfold J5 at hok
 split at hok
 · next n y t e1 e2 =>
   simp only at e1 e2
   subst e1 e2
   split at hok
   · next m' e hu =>
     simp at hok
     subst hok
     have hu := Ht hu
     have hv : v = .int .i64 (m' : Int) := (Option.some.inj h).symm
     subst hv
     refine ⟨_, ?_, .int _ _⟩
     simp [execOp, resolve, invoke, builtin, Builtin.len_, run_underlying hu, hargs, goInt]
   · simp at hok
 · next x y t e1 e2 =>
   simp only at e1 e2
   subst e1 e2
   simp at hok
   have hu := EM hok.1
   replace h : ob (ev env x) Hl = some v := h
   rw [Ag] at h
   obtain ⟨u, hu', h⟩ := h
   have hr := Bd hE hG hok.2 hu'
   generalize hz : a.eval y = z at hr
   cases hr <;> simp [Hl] at h
   subst h
   refine ⟨_, ?_, .int _ _⟩
   simp [execOp, resolve, invoke, builtin, Builtin.len_, run_underlying hu, hargs, goInt, hz, Ky]
 · next x y t e1 e2 =>
   simp only at e1 e2
   subst e1 e2
   simp at hok
   obtain ⟨e, he⟩ := Option.isSome_iff_exists.1 hok.1
   have hu := DT he
   replace h : ob (ev env x) CZ = some v := h
   rw [Ag] at h
   obtain ⟨u, hu', h⟩ := h
   have hr := Bd hE hG hok.2 hu'
   generalize hz : a.eval y = z at hr
   cases hr <;> simp [CZ] at h
   all_goals
    subst h
    refine ⟨_, ?_, .int _ _⟩
    simp [execOp, resolve, invoke, builtin, Builtin.len_, run_underlying hu, goInt, hz]
 · next x y t e1 e2 =>
   simp only at e1 e2
   subst e1 e2
   simp at hok
   obtain ⟨e, he⟩ := Option.isSome_iff_exists.1 hok.1
   have hu := DT he
   replace h : ob (ev env x) pCap = some v := h
   rw [Ag] at h
   obtain ⟨u, hu', h⟩ := h
   have hr := Bd hE hG hok.2 hu'
   generalize hz : a.eval y = z at hr
   have key : ∀ (base base' : Option Addr) (n c : Nat), (cond (Nat.blt c UNK) (some (Value.int .i64 (.ofNat c))) none) = some v → z = .slice base' n c → ∃ v', (execOp a.eval ⟨dst, .call ⟨.builtin .cap, ⟨[y]⟩, ⟨[t]⟩⟩, type, pos, after, guard⟩).run P w = .ok (.value v') w ∧ BH m v v' := by
    intro base base' n c h hz'
    cases hb : Nat.blt c UNK with
    | false => rw [hb] at h; simp at h
    | true =>
     rw [hb] at h
     have h := (Option.some.inj h).symm
     subst h
     refine ⟨_, ?_, .int _ _⟩
     simp [execOp, resolve, invoke, builtin, Builtin.cap_, run_underlying hu, hargs, goInt, hz, hz']
   cases hr <;> simp only [pCap] at h <;> try (simp at h; done)
   · exact key none none _ _ h rfl
   · exact key none _ _ _ h rfl
   · rw [show Nat.blt UNK UNK = false from rfl] at h; simp at h
   · rw [show Nat.blt UNE UNK = false from rfl] at h; simp at h
 · next xs =>
   replace h : ob (evs env xs) (mmA true) = some v := h
   rw [Ag] at h
   obtain ⟨u, hu', h⟩ := h
   have hr := J9 hE hG hok hu'
   obtain ⟨r', h1, h2⟩ := YM (P := P) (w := w) (ts := ⟨ats⟩) (t := type) h hr
   refine ⟨r', ?_, h2⟩
   have h1' : (Builtin.max_ ⟨ats⟩ type ⟨args.map a.eval⟩).run P w = .ok r' w := h1
   simp [execOp, resolve, invoke, builtin, hargs, h1']
 · next xs =>
   replace h : ob (evs env xs) (mmA false) = some v := h
   rw [Ag] at h
   obtain ⟨u, hu', h⟩ := h
   have hr := J9 hE hG hok hu'
   obtain ⟨r', h1, h2⟩ := YM (P := P) (w := w) (ts := ⟨ats⟩) (t := type) h hr
   refine ⟨r', ?_, h2⟩
   have h1' : (Builtin.min_ ⟨ats⟩ type ⟨args.map a.eval⟩).run P w = .ok r' w := h1
   simp [execOp, resolve, invoke, builtin, hargs, h1']
 · simp at hok
theorem ob1 {x : Operand} {f : Value → Option Value} {v : Value} (h : ob (ev env x) f = some v) : ∃ u, ev env x = some u ∧ f u = some v := Ag.1 h
theorem Kz {P : Program} {t : Nat} {z : Value} (h : Gs P t = some z) : ∃ i, P.info? t = some i ∧ i.zero = some z := by
 unfold Gs at h
 cases hi : P.info? t with
 | none => simp [hi] at h
 | some i => simp [hi] at h; exact ⟨i, rfl, h⟩
theorem Jk {P : Program} {t n : Nat} (h : isz P t = some n) : ∃ i, P.info? t = some i ∧ i.size = n := by
 unfold isz at h
 cases hi : P.info? t with
 | none => simp [hi] at h
 | some i => simp [hi] at h; exact ⟨i, rfl, h⟩
set_option maxHeartbeats 8000000 in
theorem VG {P : Program} {TA : List Nat} (hTA : ∀ t ∈ TA, Ji P t) (hT : VB P T) {o : POp} {op : Op} {dst : Option Nat} {type : Nat} {pos : String} {after : Array Edge} {guard : Option (Nat × Bool)}
 (hok : okP P X.G TA o op = true) {v : Value} (h : RG T env o = some v) (hE : CB m env a.tmps) (hG : OY X.G m) (w : World) :
 ∃ v', (execOp a.eval ⟨dst, op, type, pos, after, guard⟩).run P w = .ok (.value v') w ∧ BH m v v' := by
 by_cases hcall : ∃ c, op = .call c
 · obtain ⟨c, rfl⟩ := hcall
   have hok' : (match c.callee with | .builtin b => J5 P X.G o b c | _ => false) = true := hok
   split at hok'
   · next b hb => exact Tz (G := X.G) hb hok' h hE hG w
   · simp at hok'
 unfold okP at hok
 split at hok
 · next c => exact absurd ⟨c, rfl⟩ hcall
 split at hok
 · exact ⟨_, by simp [execOp], Bd hE hG hok h⟩
 · exact ⟨_, by simp [execOp], Bd hE hG hok h⟩
 · next c x y c' x' y' _ =>
   simp at hok
   obtain ⟨u, h1, h2⟩ := ob1 h
   obtain ⟨t, e, hr⟩ := Yr h2 (Bd hE hG hok.1.1 h1) (fun v hv => Bd hE hG hok.1.2 hv) (fun v hv => Bd hE hG hok.2 hv)
   refine ⟨_, ?_, hr⟩
   simp [execOp, e, asBool]
 · next x y _ =>
   obtain ⟨u, h1, h2⟩ := ob1 h
   exact Yz hT h2 (Bd hE hG hok h1) w
 · next o x y o' t x' y' t' _ =>
   simp at hok
   obtain ⟨⟨rfl, hx⟩, hy⟩ := hok
   obtain ⟨u, v', h1, h2, h3⟩ := Em h
   obtain ⟨e1, e2, e3⟩ := gU h3 (Bd hE hG hx h1) (Bd hE hG hy h2) P t x' y' w
   exact ⟨_, by simp [execOp, e1, e2], e3⟩
 · next k t neg x y o' t' x' y' t2 _ =>
   simp only [Bool.and_eq_true, decide_eq_true_eq] at hok
   obtain ⟨⟨⟨⟨rfl, rfl⟩, hk⟩, hx⟩, hy⟩ := hok
   obtain ⟨u, v', h1, h2, h3⟩ := Em h
   obtain ⟨e1, e2⟩ := lD (X := ⟨P, X.G, TA, [], []⟩) hTA hk rfl rfl h3 (Bd hE hG hx h1) (Bd hE hG hy h2) w
   refine ⟨_, ?_, e2⟩
   simp only [execOp]
   rw [Sem.run_bind, e1]
   simp [Result.andThen]
 · next o x o' t y _ =>
   simp at hok
   obtain ⟨rfl, hx⟩ := hok
   obtain ⟨u, h1, h2⟩ := ob1 h
   obtain ⟨r', e1, e2⟩ := lF (P := P) (w := w) h2 (Bd hE hG hx h1)
   exact ⟨r', by simp [execOp, e1], e2⟩
 · next k x src dst y _ =>
   simp at hok
   obtain ⟨⟨h1, h2⟩, hx⟩ := hok
   obtain ⟨u, h3, h4⟩ := ob1 h
   obtain ⟨r', e1, e2⟩ := Yx (w := w) h1 (Lp h2) h4 (Bd hE hG hx h3)
   exact ⟨r', by simp [execOp, e1], e2⟩
 · next x src dst y _ =>
   simp at hok
   obtain ⟨⟨h1, h2⟩, hx⟩ := hok
   obtain ⟨u, h3, h4⟩ := ob1 h
   obtain ⟨r', e1, e2⟩ := Yy (w := w) h1 (EM h2) h4 (Bd hE hG hx h3)
   exact ⟨r', by simp [execOp, e1], e2⟩
 · next t x t' y _ =>
   simp at hok
   obtain ⟨⟨rfl, h2⟩, hx⟩ := hok
   obtain ⟨u, h3, h4⟩ := ob1 h
   simp at h4; subst h4
   refine ⟨_, ?_, .iface t (Bd hE hG hx h3)⟩
   cases hd : P.underlying t with
   | none => simp [hd, Qv] at h2
   | some d => cases d <;> first | (simp [hd, Qv] at h2; done) | simp [execOp, Instr.makeInterface, run_underlying hd]
 · next fn xs ys fn' xs' ys' _ =>
   simp at hok
   obtain ⟨⟨h1, h2⟩, h3⟩ := hok
   replace h : ob (evs env xs) (fun u => ob (evs env ys) fun v => some (.func fn ⟨u⟩ ⟨v⟩)) = some v := h
   rw [Ag] at h
   obtain ⟨u, hu, h⟩ := h
   rw [Ag] at h
   obtain ⟨z, hz, h⟩ := h
   simp at h; subst h
   refine ⟨.func fn' ⟨xs'.toList.map a.eval⟩ ⟨ys'.toList.map a.eval⟩, ?_, .func ?_ (J9 hE hG h2 hu) (J9 hE hG h3 hz)⟩
   · have e : ∀ xs : Array Operand, (⟨xs.toList.map a.eval⟩ : Array Value) = xs.map a.eval := fun xs => by apply Array.ext'; simp
     simp [execOp, Instr.makeFunc, e]
   · cases fn <;> cases fn' <;> simp [okFn] at h1 <;> subst h1 <;> constructor
 · next z ps t parts _ =>
   obtain ⟨l, hl, c, hf, hv⟩ : ∃ l, evP env ps = some l ∧ ∃ c, fill z l = some c ∧ v = .agg ⟨c⟩ := by
    replace h : ob (evP env ps) (fun l => ob (fill z l) fun c => some (.agg ⟨c⟩)) = some v := h
    rw [Ag] at h
    obtain ⟨l, hl, h⟩ := h
    rw [Ag] at h
    obtain ⟨c, hc, h⟩ := h
    simp at h
    exact ⟨l, hl, c, hc, h.symm⟩
   subst hv
   have fin : ∀ {place : Nat → Option (Nat × Nat)} {zv : Value}, OX z zv.cells.toList = true → GZ X.G place ps parts.toList = true →
    (∀ c', Instr.fill place zv.cells (parts.map fun (i, x) => (i, a.eval x)).toList = some c' → P.built t (parts.map fun (i, x) => (i, a.eval x)).toList = some c') →
    ∃ v', (execOp a.eval ⟨dst, .build t parts, type, pos, after, guard⟩).run P w = .ok (.value v') w ∧ BH m (.agg ⟨c⟩) v' := by
    intro place zv hz hp hb
    obtain ⟨l', rfl, hlen, hall⟩ := Tt hE hG hp hl
    obtain ⟨c', h1, h2⟩ := P7 hlen hall (Gu (m := m) hz).2 hf
    rw [← P8] at h1
    have := run_build w t (parts.map fun (i, x) => (i, a.eval x)) c' (hb c' h1)
    refine ⟨.agg c', ?_, ?_⟩
    · simp only [execOp]
      rw [Sem.run_bind, this]
      simp [Result.andThen]
    · cases c'; exact .agg h2
   split at hok
   · next zv fs hz hu =>
     split at hok
     · next pl hpl =>
       simp only [Bool.and_eq_true] at hok
       refine fin hok.1 hok.2 fun c' hc' => ?_
       obtain ⟨i, hi, hiz⟩ := Kz hz
       unfold Program.built
       simp only [hi, hu, hiz]
       unfold Nw at hpl
       simp only [hpl]
       exact hc'
     · simp at hok
   · next zv n e hz hu =>
     split at hok
     · next n' hn =>
       simp at hok
       refine fin hok.1 hok.2 fun c' hc' => ?_
       obtain ⟨i, hi, hiz⟩ := Kz hz
       obtain ⟨j, hj, hjs⟩ := Jk hn
       unfold Program.built
       simp only [hi, hu, hiz, hj, hjs]
       exact hc'
     · simp at hok
   · simp at hok
 · next off x s y f _ =>
   split at hok
   · next fs hfs =>
     split at hok
     · next fl hfl =>
       simp only [Bool.and_eq_true, decide_eq_true_eq] at hok
       obtain ⟨⟨h1, h2⟩, hx⟩ := hok
       split at h2
       · next n hn =>
         simp at h2
         obtain ⟨u, h3, h4⟩ := ob1 h
         obtain ⟨r', e1, e2⟩ := WQ (w := w) (KU hfs) hfl h1 hn h2 h4 (Bd hE hG hx h3)
         exact ⟨r', by simp [execOp, e1], e2⟩
       · simp at h2
     · simp at hok
   · simp at hok
 · next agg off n x s y f _ =>
   split at hok
   · next fs hfs =>
     split at hok
     · next fl hfl =>
       simp only [Bool.and_eq_true, decide_eq_true_eq] at hok
       obtain ⟨⟨⟨h1, h2⟩, h3⟩, hx⟩ := hok
       obtain ⟨u, h4, h5⟩ := ob1 h
       obtain ⟨r', e1, e2⟩ := gW (w := w) (KU hfs) hfl h1 h2 h3 h5 (Bd hE hG hx h4)
       exact ⟨r', by simp [execOp, e1], e2⟩
     · simp at hok
   · simp at hok
 · next n x i t x' i' _ =>
   split at hok
   · next e he =>
     simp only [Bool.and_eq_true, decide_eq_true_eq] at hok
     obtain ⟨⟨h1, hx⟩, hi⟩ := hok
     obtain ⟨u, v', h2, h3, h4⟩ := Em h
     obtain ⟨r', e1, e2⟩ := Yt (w := w) (DT he) h1 h4 (Bd hE hG hx h2) (Bd hE hG hi h3)
     exact ⟨r', by simp [execOp, e1], e2⟩
   · simp at hok
 · next len n x i t x' i' _ =>
   split at hok
   · next m' e he =>
     simp only [Bool.and_eq_true, decide_eq_true_eq] at hok
     obtain ⟨⟨⟨rfl, h1⟩, hx⟩, hi⟩ := hok
     obtain ⟨u, v', h2, h3, h4⟩ := Em h
     obtain ⟨r', e1, e2⟩ := Yu (w := w) (Ht he) h1 h4 (Bd hE hG hx h2) (Bd hE hG hi h3)
     exact ⟨r', by simp [execOp, e1], e2⟩
   · simp at hok
 · next x i t x' i' _ =>
   simp only [Bool.and_eq_true, decide_eq_true_eq] at hok
   obtain ⟨⟨h1, hx⟩, hi⟩ := hok
   obtain ⟨u, v', h2, h3, h4⟩ := Em h
   obtain ⟨r', e1, e2⟩ := Yv (w := w) (EM h1) h4 (Bd hE hG hx h2) (Bd hE hG hi h3)
   exact ⟨r', by simp [execOp, e1], e2⟩
 · next agg len n x i t x' i' _ =>
   split at hok
   · next m' e he =>
     simp only [Bool.and_eq_true, decide_eq_true_eq] at hok
     obtain ⟨⟨⟨⟨rfl, h1⟩, h1'⟩, hx⟩, hi⟩ := hok
     obtain ⟨u, v', h2, h3, h4⟩ := Em h
     obtain ⟨r', e1, e2⟩ := Yw (w := w) (Ht he) h1 h1' h4 (Bd hE hG hx h2) (Bd hE hG hi h3)
     exact ⟨r', by simp [execOp, e1], e2⟩
   · simp at hok
 · next x lo hi t x' lo' hi' _ =>
   simp only [Bool.and_eq_true, decide_eq_true_eq] at hok
   obtain ⟨⟨⟨h1, hx⟩, hlo⟩, hhi⟩ := hok
   replace h : ob (evO env lo) (fun l => ob (evO env hi) fun h => ob (ev env x) (FD l h)) = some v := h
   simp only [Ag] at h
   obtain ⟨l, el, hh, eh, u, eu, h⟩ := h
   obtain ⟨r', e1, e2⟩ := WR (w := w) (EM h1) h (Bd hE hG hx eu) (JC hE hG hlo el) (JC hE hG hhi eh)
   exact ⟨r', by simp [execOp, e1], e2⟩
 · next len n x lo hi t x' lo' hi' _ =>
   split at hok
   · next m' e he =>
     simp only [Bool.and_eq_true, decide_eq_true_eq] at hok
     obtain ⟨⟨⟨⟨⟨rfl, hl⟩, h1⟩, hx⟩, hlo⟩, hhi⟩ := hok
     replace h : ob (evO env lo) (fun l => ob (evO env hi) fun h => ob (ev env x) (TT m' n l h)) = some v := h
     simp only [Ag] at h
     obtain ⟨l, el, hh, eh, u, eu, h⟩ := h
     obtain ⟨r', e1, e2⟩ := WS (w := w) (Ht he) hl h1 h (Bd hE hG hx eu) (JC hE hG hlo el) (JC hE hG hhi eh)
     exact ⟨r', by simp [execOp, e1], e2⟩
   · simp at hok
 · next t z ok x y t0 t' ok' _ =>
   simp only [Bool.and_eq_true, decide_eq_true_eq] at hok
   obtain ⟨⟨⟨⟨rfl, rfl⟩, h1⟩, hz⟩, hx⟩ := hok
   split at hz
   · next zv hzv =>
     obtain ⟨rfl, hzr⟩ := Ti (m := m) hz
     obtain ⟨u, h3, h4⟩ := ob1 h
     obtain ⟨r', e1, e2⟩ := gX (t0 := t0) (w := w) h1 hzv hzr h4 (Bd hE hG hx h3)
     exact ⟨r', by simp [execOp, e1], e2⟩
   · simp at hz
 · next x i y j _ =>
   simp at hok
   obtain ⟨rfl, hx⟩ := hok
   obtain ⟨u, h3, h4⟩ := ob1 h
   obtain ⟨r', e1, e2⟩ := gY (P := P) (w := w) h4 (Bd hE hG hx h3)
   exact ⟨r', by simp [execOp, e1], e2⟩
 · simp at hok
end
end Go.Im

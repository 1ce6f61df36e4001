/- The ideal machine: regions in the order of the text. -/
import Derived.Test.YtojbkocmobkddaaGreatDoorImS14
set_option linter.all false
namespace Go.Im
section
variable {X : Cx} {T : MT} {self : Self} {m : Map} {s : AA} {w : World} {env : Env} {a : Act} {F : Fence} {inR : Bool} {n : Nat}
theorem Hw {ops : Array Oper} {ig : Option (Nat × Bool)} {o : Oper} {t : Bool} (hg : Lh ops ig o.guard = true) (hE : CB m env a.tmps) (h : want env ig = some t) : Region.wanted o (yielded ops a.tmps) = t := by
 unfold Region.wanted
 cases hog : o.guard with
 | none =>
  rw [hog] at hg
  cases ig with
  | none => simp [want] at h; exact h.symm ▸ rfl
  | some g => simp [Lh] at hg
 | some jb =>
  obtain ⟨j, b'⟩ := jb
  rw [hog] at hg
  cases ig with
  | none => simp [Lh] at hg
  | some g =>
   obtain ⟨g, b⟩ := g
   simp only [Lh, Bool.and_eq_true, decide_eq_true_eq] at hg
   obtain ⟨hj, rfl⟩ := hg
   simp only [want] at h
   simp only [yielded, hj, Option.bind_some]
   cases hv : Tr.get env g with
   | none => rw [hv] at h; simp [Au] at h
   | some v =>
    rw [hv] at h
    obtain ⟨v', h1, h2⟩ := hE g v hv
    match v, h, h2 with
    | .bool c, h, h2 =>
     obtain rfl := h2.VD
     simp only [Au, Option.some.injEq] at h
     rw [h1]
     subst h
     cases c <;> cases b <;> rfl
    | .tuple l, h, h2 =>
     simp only [Au, Option.some.injEq] at h
     obtain ⟨l', rfl, _⟩ := h2.Yq
     rw [h1]
     subst h
     rfl
theorem Did.same (hR : Rl X m s w) {v v' : Value} (hv : BH m v v') : Did X m s w v s v' w := ⟨⟨m, hR, Step.refl _ _ _, hv⟩⟩
theorem Did.laid (hR : Rl X m s w) {o : CX} {f : Nat → Value} {v' : Value} {w' : World} (h : Laid X m s w o f v' w') : Did X m s w (f s.nx) (s.new o) v' w' := by
 obtain ⟨p, o', h1, h2, h3, h4, h5, h6, h7⟩ := h.ex
 exact ⟨⟨m.add s.nx p, hR.new o o' p h1 w' h2 h6, hR.P5 o o' p h1 w' h2 h3 h4 h5, h7⟩⟩
structure Good (X : Cx) (T : MT) : Prop where
 ta : ∀ t ∈ X.TA, Ji X.P t
 mt : VB X.P T
 mixed : X.P.follows .mixedOrders = true
theorem PI {P : Program} {F : Fence} {o : Oper} (h : Oz o.op = true) : o.semAt F.round a.eval = execOp a.eval o :=
 Oper.semAt_eq _ _ _ fun c e => by rw [e] at h; simp [Oz] at h
theorem WX (hX : Good X T) (hS : Gx X self) (hF : Fen F inR) {io : IOp} {o : Oper}
 (hok : okOp X.P X.G X.TA X.TK io o.op = true) {Qs : Value × AA → Prop} (h : (NG T self env s io).all Qs) (hE : CB m env a.tmps) (hR : Rl X m s w)
 {Q : Exit → Act → World → Prop} {K : Act → World → Prop} (hK : WV X m s w Qs o a K) :
 o.uponIn F n X.P a K Q ((execOp a.eval o).run X.P w) := by
 obtain ⟨dst, op, type, pos, after, guard⟩ := o
 cases io with
 | p io =>
  obtain ⟨v, h1, h2⟩ := R.all_obR (show (obR 21 (RG T env io) (okS s)).all Qs from h)
  obtain ⟨v', e1, e2⟩ := VG (dst := dst) (type := type) (pos := pos) (after := after) (guard := guard) (X := X) hX.ta hX.mt hok h1 hE hR.glob w
  rw [e1, Oper.uponIn_value]
  exact hK v s v' w h2 (.same hR e2)
 | r io =>
  obtain ⟨v, h1, h2⟩ := R.all_obR (show (obR 22 (JR env s io) (okS s)).all Qs from h)
  obtain ⟨v', e1, e2⟩ := VI (TK := X.TK) (dst := dst) (type := type) (pos := pos) (after := after) (guard := guard) hok h1 hE hR
  rw [e1, Oper.uponIn_value]
  exact hK v s v' w h2 (.same hR e2)
 | a io =>
  obtain ⟨⟨ob', f⟩, h1, h2⟩ := R.all_obR (show (obR 23 (Oo env io) fun r => .ok (r.2 s.nx, s.new r.1)).all Qs from h)
  obtain ⟨v', w', e1, e2⟩ := RY (dst := dst) (type := type) (pos := pos) (after := after) (guard := guard) hok h1 hE hR
  rw [e1, Oper.uponIn_value]
  exact hK _ _ v' w' h2 (.laid hR e2)
 | w io =>
  have h' : (TU T self env s io).all Qs := h
  cases hc : io.calls with
  | true => exact iC (TK := X.TK) hX.mt hS hF hok hc h' hE hR hK
  | false =>
   obtain ⟨r, s', h2, nx, v', w', e1, e2, e3⟩ := Z8 (TK := X.TK) (dst := dst) (type := type) (pos := pos) (after := after) (guard := guard) hok hc h' hE hR
   rw [e1]
   rcases e2 with rfl | ⟨rfl, rfl⟩
   · rw [Oper.uponIn_value]; exact hK r s' v' w' h2 e3
   · rw [Oper.uponIn_skip]; exact hK r s' _ w' h2 e3
theorem VJ (hX : Good X T) (hS : Gx X self) (hF : Fen F inR) {nt : Nat} {ops : Array Oper} {io : D5} {o : Oper} {i : Nat} (hi : ops[i]? = some o)
 (hok : J6 X.P X.G X.TA X.TK nt ops io o = true) {Qs : Value × AA → Prop} (h : (KR T self env s io).all Qs) (hE : CB m env a.tmps) (hR : Rl X m s w)
 {Q : Exit → Act → World → Prop} {K : Act → World → Prop} (hK : WV X m s w Qs o a K) : wpOpIn F n X.P ops Q i K a w := by
 simp only [J6, Bool.and_eq_true] at hok
 obtain ⟨⟨⟨⟨_, _⟩, hg⟩, hd⟩, hop⟩ := hok
 unfold wpOpIn
 rw [hi]
 simp only
 unfold KR at h
 cases hw : want env io.guard with
 | none => rw [hw] at h; exact h.elim
 | some t =>
  rw [hw] at h
  rw [Hw hg hE hw]
  cases t with
  | true =>
   simp only [if_true]
   refine ⟨fun f _ => hF.fn f, ?_⟩
   rw [PI (P := X.P) hd]
   exact WX hX hS hF hop h hE hR hK
  | false =>
   simp only [Bool.false_eq_true, if_false]
   exact ⟨fun f _ => hF.fn f, hK Bl s undef w h (.same hR (Ik m))⟩
theorem CB.put {m m' : Map} (hm : m.le m') {env : Env} {a : Act} {nt : Nat} (hE : CB m env a.tmps) (hsz : a.tmps.size = nt) {v v' : Value} (hv : BH m' v v') {d : Option Nat} (hd : (match d with | some d => decide (d < nt) | none => true) = true) :
 CB m' (Env.put env v d) (a.put d v').tmps := by
 cases d with
 | none => exact hE.mono hm
 | some d =>
  have hlt : d < a.tmps.size := by rw [hsz]; simpa using hd
  exact (hE.mono hm).set hv hlt
theorem MG (a : Act) (d : Option Nat) (v : Value) : (a.put d v).tmps.size = a.tmps.size := by cases d <;> simp [Act.put]
theorem put_defers (a : Act) (d : Option Nat) (v : Value) : (a.put d v).defers = a.defers := by cases d <;> rfl
theorem St.put {nt B : Nat} (h : St X nt B m env s a w) {v v' : Value} {s' : AA} {w' : World} (hd : Did X m s w v s' v' w') {d : Option Nat} (hdn : (match d with | some d => decide (d < nt) | none => true) = true) :
 ∃ m', St X nt B m' (Env.put env v d) s' (a.put d v') w' ∧ Step m s w m' s' w' := by
 obtain ⟨m', h1, h2, h3⟩ := hd.ex
 exact ⟨m', ⟨h.env.put h2.le h.sz h3 hdn, h1, by rw [MG]; exact h.sz, by rw [put_defers]; exact h.marks.step h2, Nat.le_trans h.low h2.size⟩, h2⟩
theorem RZ (hX : Good X T) (hS : Gx X self) (hF : Fen F inR) {nt B : Nat} {ops : Array Oper} {β : Type} {Qr : β → Prop} {Q : Exit → Act → World → Prop} : ∀ (l : List D5) (l' : List Oper) (i : Nat) (env : Env) (s : AA) (a : Act) (w : World) (m : Map) (K : Env → AA → R β),
 EX X.P X.G X.TA X.TK nt ops l l' = true → (∀ j o, l'[j]? = some o → ops[i + j]? = some o) → (WB T self l env s K).all Qr → St X nt B m env s a w →
 (∀ env' s' a' w' m', (K env' s').all Qr → St X nt B m' env' s' a' w' → Step m s w m' s' w' → Q .normal a' w') → wpOpsIn F n X.P ops Q (List.range' i l'.length) a w
 | [], [], i, env, s, a, w, m, K, _, _, h, hst, hQ => by
  simp only [List.length_nil, List.range'_zero]
  exact hQ env s a w m h hst (Step.refl _ _ _)
 | io :: l, o :: l', i, env, s, a, w, m, K, hok, hops, h, hst, hQ => by
  simp only [EX, Bool.and_eq_true] at hok
  simp only [List.length_cons, List.range'_succ]
  rw [wpOpsIn_cons]
  have hi : ops[i]? = some o := by simpa using hops 0 o (by simp)
  have h1 := (R.all_bind _ _ _).1 (show ((KR T self env s io).bind fun r => WB T self l (Env.put env r.1 io.dst) r.2 K).all Qr from h)
  refine VJ hX hS hF hi hok.1 h1 hst.env hst.rl fun v s' v' w' hq hd => ?_
  have hok1 := hok.1
  simp only [J6, Bool.and_eq_true, decide_eq_true_eq] at hok1
  obtain ⟨m', h2, h3⟩ := hst.put hd hok1.1.1.1.2
  refine RZ hX hS hF l l' (i + 1) (Env.put env v io.dst) s' (a.put o.dst v') w' m' K hok.2 (fun j u hj => by have := hops (j + 1) u (by simpa using hj); rw [← this]; congr 1; omega) hq ?_ fun env' s'' a' w'' m'' g1 g2 g3 => hQ env' s'' a' w'' m'' g1 g2 (h3.trans g3)
  rw [hok1.1.1.1.1]
  exact h2
 | [], _ :: _, _, _, _, _, _, _, _, h, _, _, _, _ => by simp [EX] at h
 | _ :: _, [], _, _, _, _, _, _, _, h, _, _, _, _ => by simp [EX] at h
end
end Go.Im

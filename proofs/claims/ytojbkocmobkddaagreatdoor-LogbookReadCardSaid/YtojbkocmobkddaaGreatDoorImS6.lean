/- The ideal machine: its pure operations stand for the model's (3). -/
import Derived.Test.YtojbkocmobkddaaGreatDoorImS5
import Derived.Laws.Tables
import Derived.Laws.Slices
set_option linter.all false
namespace Go.Im
theorem Dj (b o n : Nat) : (⟨b, o, none⟩ : Addr).add n = ⟨b, o + n, none⟩ := by
 unfold Addr.add
 split
 · next h => subst h; rfl
 · rfl
section
variable {P : Program} {m : Map} {w : World}
theorem Gw {v : Value} {n : Nat} (h : asNat v = some n) : ∃ k, v = .int k (n : Int) := by
 cases v <;> simp [asNat] at h
 case int k x =>
  cases x with
  | ofNat j => simp at h; subst h; exact ⟨k, rfl⟩
  | negSucc j => simp at h
theorem Yr {a' b' c c' r : Value} {x y : Option Value} (h : Ce x y c = some r) (hc : BH m c c') (hx : ∀ v, x = some v → BH m v a') (hy : ∀ v, y = some v → BH m v b') :
 ∃ t, c' = .bool t ∧ BH m r (if t then a' else b') := by
 cases hc <;> simp [Ce] at h
 case bool t =>
  refine ⟨t, rfl, ?_⟩
  cases t with
  | true => exact hx _ h
  | false => exact hy _ h
theorem WQ {off : Nat} {x x' r : Value} {t : Nat} {f : Nat} {fs : Array Field} {fl : Field} {n : Nat} (hu : P.underlying t = some (.struct fs)) (hf : fs[f]? = some fl) (ho : fl.offset = off)
 (hn : isz P fl.type = some n) (hz : n ≠ 0) (h : Ad off x = some r) (hx : BH m x x') : ∃ r', (Instr.fieldAt t x' f).run P w = .ok r' w ∧ BH m r r' := by
 cases hx <;> simp [Ad] at h
 case ptr b o p hm =>
  subst h
  refine ⟨_, ?_, BH.ptr (o := o + off) hm⟩
  simp [Instr.fieldAt, run_underlying hu, hf, Instr.sureAddr, fieldPlace, run_sizeOf hn, hz, ho, Dj, Nat.add_assoc]
theorem VF {agg : Bool} {off n t : Nat} {l l' : List Value} {r : Value} (hn : isz P t = some n) (ha : Kv P t = some agg) (h : Y8 agg off n l = some r) (hl : CJ m l l') :
 ∃ r', (part t ⟨l'⟩ off).run P w = .ok r' w ∧ BH m r r' := by
 unfold Y8 at h
 cases agg with
 | true =>
  simp only [cond_true, Ag] at h
  obtain ⟨c, hc, h⟩ := h
  simp at h; subst h
  obtain ⟨_, rfl⟩ := Jj hc
  refine ⟨.agg ⟨(l'.drop off).take n⟩, ?_, .agg ((hl.drop off).take n)⟩
  simp [part, Gn ha, run_sizeOf hn]
 | false =>
  simp only [cond_false, Eu] at h
  obtain ⟨r', h1, h2⟩ := hl.get _ _ h
  refine ⟨r', ?_, h2⟩
  simp [part, Gn ha, h1]
theorem gW {agg : Bool} {off n : Nat} {x x' r : Value} {t f : Nat} {fs : Array Field} {fl : Field} (hu : P.underlying t = some (.struct fs)) (hf : fs[f]? = some fl) (ho : fl.offset = off)
 (hn : isz P fl.type = some n) (ha : Kv P fl.type = some agg) (h : pFld agg off n x = some r) (hx : BH m x x') : ∃ r', (Instr.field t x' f).run P w = .ok r' w ∧ BH m r r' := by
 cases hx <;> simp [pFld] at h
 case agg l l' hl =>
  obtain ⟨r', h1, h2⟩ := VF (w := w) hn ha h hl
  refine ⟨r', ?_, h2⟩
  simp [Instr.field, run_underlying hu, hf, asAgg, ho, h1]
theorem Yt {n t e : Nat} {x x' i i' r : Value} (hu : P.underlying t = some (.slice e)) (hn : isz P e = some n) (h : BR n x i = some r) (hx : BH m x x') (hi : BH m i i') :
 ∃ r', (Instr.indexAt t x' i').run P w = .ok r' w ∧ BH m r r' := by
 have key : ∀ {b o len cap : Nat} {p : Place}, m b = some p → (ob (asNat i) fun j => cond (Nat.blt j len) (some (Value.pointer (some (Fb ⟨b, o, none⟩ (Nat.mul j n))))) none) = some r →
  ∃ r', (Instr.indexAt t (.slice (some ⟨p.blk, p.sh + o, none⟩) len cap) i').run P w = .ok r' w ∧ BH m r r' := by
  intro b o len cap p hm h0
  rw [Ag] at h0
  obtain ⟨j, hj, h1⟩ := h0
  obtain ⟨k, rfl⟩ := Gw hj
  obtain rfl := hi.Gf
  have h1 : cond (Nat.blt j len) (some (Value.pointer (some (Fb ⟨b, o, none⟩ (Nat.mul j n))))) none = some r := h1
  cases hb : Nat.blt j len with
  | false => rw [hb] at h1; simp at h1
  | true =>
   have := Bq.1 hb
   rw [hb] at h1; simp at h1; subst h1
   refine ⟨_, ?_, BH.ptr (o := o + j * n) hm⟩
   simp [Instr.indexAt, asIntOf, run_underlying hu, this, run_sizeOf hn, Dj, Nat.add_assoc]
 cases hx <;> simp only [BR] at h <;> try (simp at h; done)
 case slK b o len cap p hm hc => exact key hm h
 case slU b o len cap p hm hc hz hn' => exact key hm h
 case slE a cap =>
  rw [Ag] at h
  obtain ⟨j, hj, h⟩ := h
  cases hb : Nat.blt j 0 with
  | false => simp [hb] at h
  | true => have := Bq.1 hb; omega
theorem Yu {len n t e : Nat} {x x' i i' r : Value} (hu : P.underlying t = some (.array len e)) (hn : isz P e = some n) (h : CY len n x i = some r) (hx : BH m x x') (hi : BH m i i') :
 ∃ r', (Instr.indexAt t x' i').run P w = .ok r' w ∧ BH m r r' := by
 cases hx <;> simp only [CY] at h <;> try (simp at h; done)
 case ptr b o p hm =>
  rw [Ag] at h
  obtain ⟨j, hj, h⟩ := h
  obtain ⟨k, rfl⟩ := Gw hj
  obtain rfl := hi.Gf
  cases hb : Nat.blt j len with
  | false => simp [hb] at h
  | true =>
   have := Bq.1 hb
   simp [hb] at h; subst h
   refine ⟨_, ?_, BH.ptr (o := o + j * n) hm⟩
   simp [Instr.indexAt, asIntOf, run_underlying hu, this, run_sizeOf hn, Dj, Instr.sureAddr, Nat.add_assoc]
theorem Yv {t : Nat} {x x' i i' r : Value} (hu : P.underlying t = some .string) (h : JQ x i = some r) (hx : BH m x x') (hi : BH m i i') :
 ∃ r', (Instr.index t x' i').run P w = .ok r' w ∧ BH m r r' := by
 cases hx <;> simp only [JQ] at h <;> try (simp at h; done)
 case string s =>
  rw [Ag] at h
  obtain ⟨j, hj, h⟩ := h
  obtain ⟨k, rfl⟩ := Gw hj
  obtain rfl := hi.Gf
  rw [Ag] at h
  obtain ⟨b, hb, h⟩ := h
  simp at h; subst h
  rw [Eu] at hb
  have hb' : s[j]? = some b := by
   obtain ⟨hlt, hb⟩ := List.getElem?_eq_some_iff.1 hb
   have hlt' : j < s.size := hlt
   rw [getElem?_pos s j hlt']
   exact congrArg some hb
  refine ⟨_, ?_, BH.int .u8 _⟩
  simp [Instr.index, asIntOf, run_underlying hu, hb']
theorem Yw {agg : Bool} {len n t e : Nat} {x x' i i' r : Value} (hu : P.underlying t = some (.array len e)) (hn : isz P e = some n) (ha : Kv P e = some agg) (h : Uo agg len n x i = some r) (hx : BH m x x') (hi : BH m i i') :
 ∃ r', (Instr.index t x' i').run P w = .ok r' w ∧ BH m r r' := by
 cases hx <;> simp only [Uo] at h <;> try (simp at h; done)
 case agg l l' hl =>
  rw [Ag] at h
  obtain ⟨j, hj, h⟩ := h
  obtain ⟨k, rfl⟩ := Gw hj
  obtain rfl := hi.Gf
  cases hb : Nat.blt j len with
  | false => simp [hb] at h
  | true =>
   have := Bq.1 hb
   simp only [hb, cond_true] at h
   obtain ⟨r', h1, h2⟩ := VF (w := w) hn ha h hl
   refine ⟨r', ?_, h2⟩
   have h1' : (part e ⟨l'⟩ (j * n)).run P w = .ok r' w := h1
   simp [Instr.index, asIntOf, run_underlying hu, this, run_sizeOf hn, h1']
def Ey (m : Map) (o o' : Option Value) : Prop := match o, o' with
 | none, none => True
 | some v, some v' => BH m v v'
 | _, _ => False
theorem EY {d y n : Nat} {o o' : Option Value} (h : bound d y o = some n) (hr : Ey m o o') : (o' = none ∧ n = d) ∨ ∃ k, o' = some (.int k (n : Int)) ∧ n ≤ y := by
 cases o with
 | none =>
  cases o' with
  | none => simp [bound] at h; exact .inl ⟨rfl, h.symm⟩
  | some v => exact hr.elim
 | some v =>
  cases o' with
  | none => exact hr.elim
  | some v' =>
   simp only [bound, Ag] at h
   obtain ⟨j, hj, h⟩ := h
   obtain ⟨k, rfl⟩ := Gw hj
   obtain rfl := BH.Gf hr
   cases hb : Nat.ble j y with
   | false => simp [hb] at h
   | true => simp [hb] at h; subst h; exact .inr ⟨k, rfl, Ae.1 hb⟩
theorem Df {sl : Bool} {len cap m' h' l' : Nat} {l h mx l1 h1 m1 : Option Value} (hmx : mx.isSome = true → h1.isSome = true) (em : bound cap cap mx = some m') (eh : bound len m' h = some h') (el : bound 0 h' l = some l')
 (rm : Ey m mx m1) (rh : Ey m h h1) (rl : Ey m l l1) : (Instr.sliceBounds sl len cap l1 h1 m1).run P w = .ok (l', h', m') w := by
 rcases EY em rm with ⟨rfl, rfl⟩ | ⟨k, rfl, hk⟩
 · rcases EY eh rh with ⟨rfl, rfl⟩ | ⟨k2, rfl, hk2⟩
   · rcases EY el rl with ⟨rfl, rfl⟩ | ⟨k3, rfl, hk3⟩
     · simp [Instr.sliceBounds]
     · simp [Instr.sliceBounds, Instr.sliceBound, asIntOf, hk3]
   · rcases EY el rl with ⟨rfl, rfl⟩ | ⟨k3, rfl, hk3⟩
     · simp [Instr.sliceBounds, Instr.sliceBound, asIntOf, hk2]
     · simp [Instr.sliceBounds, Instr.sliceBound, asIntOf, hk2, hk3]
 · rcases EY eh rh with ⟨rfl, rfl⟩ | ⟨k2, rfl, hk2⟩
   · cases mx with
     | none => exact rm.elim
     | some v => simp at hmx
   · rcases EY el rl with ⟨rfl, rfl⟩ | ⟨k3, rfl, hk3⟩
     · simp [Instr.sliceBounds, Instr.sliceBound, asIntOf, hk, hk2]
     · simp [Instr.sliceBounds, Instr.sliceBound, asIntOf, hk, hk2, hk3]
theorem WR {t : Nat} {x x' r : Value} {l h l1 h1 : Option Value} (hu : P.underlying t = some .string) (hv : FD l h x = some r) (hx : BH m x x') (rl : Ey m l l1) (rh : Ey m h h1) :
 ∃ r', (Instr.sliceAt t x' l1 h1 none).run P w = .ok r' w ∧ BH m r r' := by
 cases hx <;> simp only [FD] at hv <;> try (simp at hv; done)
 case string s =>
  simp only [Ag] at hv
  obtain ⟨h', eh, l', el, hv⟩ := hv
  simp at hv; subst hv
  have hb := Df (P := P) (w := w) (m := m) (sl := false) (len := s.size) (cap := s.size) (mx := none) (m1 := none) (m' := s.size) (by simp) rfl eh el trivial rh rl
  refine ⟨.string (s.extract l' h'), ?_, ?_⟩
  · simp [Instr.sliceAt, Instr.slice, run_underlying hu, hb]
  · have : s.extract l' h' = ofL (((toL s).take h').drop l') := by
     apply Tj
     simp [toL, List.drop_take]
    rw [this]; exact .string _
theorem Tv (b o n l h m' c : Nat) : slAt ⟨b, o, none⟩ n l h m' c = .slice (some ⟨b, if m' = l then o else o + l * n, none⟩) (h - l) c := by
 unfold slAt
 by_cases e : m' = l
 · simp [Ej e, e]
 · simp [Hr e, e, Fb]
theorem WS {len n t e : Nat} {x x' r : Value} {l h l1 h1 : Option Value} (hu : P.underlying t = some (.array len e)) (hl : len < UNK) (hn : isz P e = some n) (hv : TT len n l h x = some r) (hx : BH m x x') (rl : Ey m l l1) (rh : Ey m h h1) :
 ∃ r', (Instr.sliceAt t x' l1 h1 none).run P w = .ok r' w ∧ BH m r r' := by
 cases hx <;> simp only [TT] at hv <;> try (simp at hv; done)
 case ptr b o p hm =>
  simp only [Ag] at hv
  obtain ⟨h', eh, l', el, hv⟩ := hv
  have hv := (Option.some.inj hv).symm
  subst hv
  have hb := Df (P := P) (w := w) (m := m) (sl := false) (len := len) (cap := len) (mx := none) (m1 := none) (m' := len) (by simp) rfl eh el trivial rh rl
  rw [Tv]
  refine ⟨_, ?_, BH.slK (o := if len = l' then o else o + l' * n) hm (Nat.lt_of_le_of_lt (Nat.sub_le _ _) hl)⟩
  simp only [Instr.sliceAt, Sem.run_bind, run_underlying hu, Result.andThen, Instr.sureAddr, Sem.run_pure, hb, run_sizeOf hn]
  by_cases e : len = l'
  · simp [e]
  · simp [e, Dj, Nat.add_assoc]
theorem gX {t t0 : Nat} {z : Value} {ok : Bool} {x x' r : Value} (hu : Qv (P.underlying t) = true) (hz : Gs P t = some z) (hzr : BH m z z) (h : pTas t z ok x = some r) (hx : BH m x x') :
 ∃ r', (Instr.typeAssert x' t0 t ok).run P w = .ok r' w ∧ BH m r r' := by
 cases hd : P.underlying t with
 | none => simp [hd, Qv] at hu
 | some d =>
  cases hx <;> simp only [pTas] at h <;> try (simp at h; done)
  case Tf =>
   cases ok <;> simp at h
   subst h
   refine ⟨_, ?_, .tuple (.cons hzr (.cons (.bool false) .nil))⟩
   cases d <;> first | (simp [hd, Qv] at hu; done) | simp [Instr.typeAssert, run_underlying hd, Eo hz]
  case iface u v v' hv =>
   by_cases e : u = t
   · subst e
     simp at h; subst h
     cases ok with
     | true =>
      refine ⟨_, ?_, .tuple (.cons hv (.cons (.bool true) .nil))⟩
      cases d <;> first | (simp [hd, Qv] at hu; done) | simp [Instr.typeAssert, run_underlying hd]
     | false =>
      refine ⟨v', ?_, hv⟩
      cases d <;> first | (simp [hd, Qv] at hu; done) | simp [Instr.typeAssert, run_underlying hd]
   · simp only [Hr e, cond_false] at h
     cases ok <;> simp at h
     subst h
     refine ⟨_, ?_, .tuple (.cons hzr (.cons (.bool false) .nil))⟩
     cases d <;> first | (simp [hd, Qv] at hu; done) | simp [Instr.typeAssert, run_underlying hd, Eo hz, e]
theorem gY {i : Nat} {x x' r : Value} (h : pExt i x = some r) (hx : BH m x x') : ∃ r', (Instr.extract x' i).run P w = .ok r' w ∧ BH m r r' := by
 cases hx <;> simp only [pExt] at h <;> try (simp at h; done)
 case tuple l l' hl =>
  rw [Eu] at h
  obtain ⟨r', h1, h2⟩ := hl.get _ _ h
  exact ⟨r', by simp [Instr.extract, h1], h2⟩
theorem lF {op : UnOp} {x x' r : Value} (h : unV op x = some r) (hx : BH m x x') : ∃ r', (Op.unary op x').run P w = .ok r' w ∧ BH m r r' := by
 cases hx <;> simp only [unV] at h <;> try (simp at h; done)
 case bool b =>
  cases op <;> simp at h
  subst h
  exact ⟨_, by simp [Op.unary], .bool _⟩
 case int k n =>
  cases op <;> simp only [] at h <;> try (simp at h; done)
  case neg =>
   have h := (Option.some.inj h).symm
   subst h
   refine ⟨_, ?_, .int _ _⟩
   simp only [Op.unary, Op.intArith, Gv, Sem.run_pure, Int.zero_sub]
   rfl
  case xor =>
   have h := (Option.some.inj h).symm
   subst h
   refine ⟨_, ?_, .int _ _⟩
   simp [Op.unary, Op.intBits]
theorem Yx {src dst : Nat} {k : IntKind} {x x' r : Value} (hs : (P.underlying src).isSome = true) (hd : P.underlying dst = some (.int k)) (h : LY k x = some r) (hx : BH m x x') :
 ∃ r', (convert src dst x').run P w = .ok r' w ∧ BH m r r' := by
 cases hx <;> simp only [LY] at h <;> try (simp at h; done)
 case int k' n =>
  simp at h; subst h
  refine ⟨_, ?_, .int _ _⟩
  obtain ⟨d, hd'⟩ := Option.isSome_iff_exists.1 hs
  simp [convert, run_underlying hd', run_underlying hd, Conv.intToInt, Gv]
theorem Yy {src dst : Nat} {x x' r : Value} (hs : (P.underlying src).isSome = true) (hd : P.underlying dst = some .string) (h : Y7 x = some r) (hx : BH m x x') :
 ∃ r', (convert src dst x').run P w = .ok r' w ∧ BH m r r' := by
 cases hx <;> simp only [Y7] at h <;> try (simp at h; done)
 case string s =>
  simp at h; subst h
  refine ⟨_, ?_, .string _⟩
  obtain ⟨d, hd'⟩ := Option.isSome_iff_exists.1 hs
  simp [convert, run_underlying hd', run_underlying hd]
theorem lG {mx : Bool} {a b a' b' r : Value} (h : mm2 mx a b = some r) (ha : BH m a a') (hb : BH m b b') : ((if mx then Builtin.max2 else Builtin.min2) a' b').run P w = .ok r w ∧ BH m r r := by
 cases ha <;> cases hb <;> simp only [mm2] at h <;> try (simp at h; done)
 case int.int k x k' y =>
  have h := (Option.some.inj h).symm
  subst h
  refine ⟨?_, .int _ _⟩
  cases mx <;> simp [Builtin.max2, Builtin.min2, Jg] <;> split <;> rfl
theorem YL {mx : Bool} : ∀ {l l' : List Value} {a a' r : Value}, mmL mx a l = some r → BH m a a' → CJ m l l' → ∃ r', (l'.foldlM (if mx then Builtin.max2 else Builtin.min2) a').run P w = .ok r' w ∧ BH m r r'
 | [], [], a, a', r, h, ha, _ => by
  simp [mmL] at h; subst h
  exact ⟨a', by simp, ha⟩
 | b :: l, _, a, a', r, h, ha, .cons hb ht => by
  simp only [mmL, Ag] at h
  obtain ⟨c, h1, h2⟩ := h
  obtain ⟨e1, e2⟩ := lG (P := P) (w := w) h1 ha hb
  obtain ⟨r', e3, e4⟩ := YL h2 e2 ht
  refine ⟨r', ?_, e4⟩
  simp only [List.foldlM_cons, Sem.run_bind, e1, Result.andThen, e3]
theorem YM {mx : Bool} {l l' : List Value} {r : Value} {ts : Array TypeId} {t : TypeId} (h : mmA mx l = some r) (hl : CJ m l l') : ∃ r', (if mx then Builtin.max_ ts t ⟨l'⟩ else Builtin.min_ ts t ⟨l'⟩).run P w = .ok r' w ∧ BH m r r' := by
 cases hl with
 | nil => simp [mmA] at h
 | cons ha ht =>
  obtain ⟨r', h1, h2⟩ := YL (P := P) (w := w) (show mmL mx _ _ = some r from h) ha ht
  refine ⟨r', ?_, h2⟩
  cases mx <;> simpa [Builtin.max_, Builtin.min_] using h1
end
end Go.Im

/- The ideal machine: its pure operations stand for the model's (3). -/
import Derived.Test.YtojbkocmobkddaaGreatDoorImS5
import Derived.Laws.Tables
import Derived.Laws.Slices
set_option linter.all false
namespace Go.Im
theorem DT (b o n : Nat) : (⟨b, o, none⟩ : Addr).add n = ⟨b, o + n, none⟩ := by
 unfold Addr.add
 split
 · next h => subst h; rfl
 · rfl
section
variable {P : Program} {m : Map} {w : World}
theorem Gf {v : Value} {n : Nat} (h : asNat v = some n) : ∃ k, v = .int k (n : Int) := by
 cases v <;> simp [asNat] at h
 case int k x =>
  cases x with
  | ofNat j => simp at h; subst h; exact ⟨k, rfl⟩
  | negSucc j => simp at h
theorem XR {a' b' c c' r : Value} {x y : Option Value} (h : D6 x y c = some r) (hc : Aw m c c') (hx : ∀ v, x = some v → Aw m v a') (hy : ∀ v, y = some v → Aw m v b') :
 ∃ t, c' = .bool t ∧ Aw m r (if t then a' else b') := by
 cases hc <;> simp [D6] at h
 case bool t =>
  refine ⟨t, rfl, ?_⟩
  cases t with
  | true => exact hx _ h
  | false => exact hy _ h
theorem VA {off : Nat} {x x' r : Value} {t : Nat} {f : Nat} {fs : Array Field} {fl : Field} {n : Nat} (hu : P.underlying t = some (.struct fs)) (hf : fs[f]? = some fl) (ho : fl.offset = off)
 (hn : isz P fl.type = some n) (hz : n ≠ 0) (h : AY off x = some r) (hx : Aw m x x') : ∃ r', (Instr.fieldAt t x' f).run P w = .ok r' w ∧ Aw m r r' := by
 cases hx <;> simp [AY] at h
 case ptr b o p hm =>
  subst h
  refine ⟨_, ?_, Aw.ptr (o := o + off) hm⟩
  simp [Instr.fieldAt, run_underlying hu, hf, Instr.sureAddr, fieldPlace, run_sizeOf hn, hz, ho, DT, Nat.add_assoc]
theorem U3 {agg : Bool} {off n t : Nat} {l l' : List Value} {r : Value} (hn : isz P t = some n) (ha : Jy P t = some agg) (h : WW agg off n l = some r) (hl : Bo m l l') :
 ∃ r', (part t ⟨l'⟩ off).run P w = .ok r' w ∧ Aw m r r' := by
 unfold WW at h
 cases agg with
 | true =>
  simp only [cond_true, Ae] at h
  obtain ⟨c, hc, h⟩ := h
  simp at h; subst h
  obtain ⟨_, rfl⟩ := JK hc
  refine ⟨.agg ⟨(l'.drop off).take n⟩, ?_, .agg ((hl.drop off).take n)⟩
  simp [part, GN ha, run_sizeOf hn]
 | false =>
  simp only [cond_false, Eb] at h
  obtain ⟨r', h1, h2⟩ := hl.get _ _ h
  refine ⟨r', ?_, h2⟩
  simp [part, GN ha, h1]
theorem aV {agg : Bool} {off n : Nat} {x x' r : Value} {t f : Nat} {fs : Array Field} {fl : Field} (hu : P.underlying t = some (.struct fs)) (hf : fs[f]? = some fl) (ho : fl.offset = off)
 (hn : isz P fl.type = some n) (ha : Jy P fl.type = some agg) (h : pFld agg off n x = some r) (hx : Aw m x x') : ∃ r', (Instr.field t x' f).run P w = .ok r' w ∧ Aw m r r' := by
 cases hx <;> simp [pFld] at h
 case agg l l' hl =>
  obtain ⟨r', h1, h2⟩ := U3 (w := w) hn ha h hl
  refine ⟨r', ?_, h2⟩
  simp [Instr.field, run_underlying hu, hf, asAgg, ho, h1]
theorem XT {n t e : Nat} {x x' i i' r : Value} (hu : P.underlying t = some (.slice e)) (hn : isz P e = some n) (h : BO n x i = some r) (hx : Aw m x x') (hi : Aw m i i') :
 ∃ r', (Instr.indexAt t x' i').run P w = .ok r' w ∧ Aw m r r' := by
 have key : ∀ {b o len cap : Nat} {p : Place}, m b = some p → (ob (asNat i) fun j => cond (Nat.blt j len) (some (Value.pointer (some (Fv ⟨b, o, none⟩ (Nat.mul j n))))) none) = some r →
  ∃ r', (Instr.indexAt t (.slice (some ⟨p.blk, p.sh + o, none⟩) len cap) i').run P w = .ok r' w ∧ Aw m r r' := by
  intro b o len cap p hm h0
  rw [Ae] at h0
  obtain ⟨j, hj, h1⟩ := h0
  obtain ⟨k, rfl⟩ := Gf hj
  obtain rfl := hi.GH
  have h1 : cond (Nat.blt j len) (some (Value.pointer (some (Fv ⟨b, o, none⟩ (Nat.mul j n))))) none = some r := h1
  cases hb : Nat.blt j len with
  | false => rw [hb] at h1; simp at h1
  | true =>
   have := Bf.1 hb
   rw [hb] at h1; simp at h1; subst h1
   refine ⟨_, ?_, Aw.ptr (o := o + j * n) hm⟩
   simp [Instr.indexAt, asIntOf, run_underlying hu, this, run_sizeOf hn, DT, Nat.add_assoc]
 cases hx <;> simp only [BO] at h <;> try (simp at h; done)
 case slK b o len cap p hm hc => exact key hm h
 case slU b o len cap p hm hc hz hn' => exact key hm h
 case slE a cap =>
  rw [Ae] at h
  obtain ⟨j, hj, h⟩ := h
  cases hb : Nat.blt j 0 with
  | false => simp [hb] at h
  | true => have := Bf.1 hb; omega
theorem XU {len n t e : Nat} {x x' i i' r : Value} (hu : P.underlying t = some (.array len e)) (hn : isz P e = some n) (h : CG len n x i = some r) (hx : Aw m x x') (hi : Aw m i i') :
 ∃ r', (Instr.indexAt t x' i').run P w = .ok r' w ∧ Aw m r r' := by
 cases hx <;> simp only [CG] at h <;> try (simp at h; done)
 case ptr b o p hm =>
  rw [Ae] at h
  obtain ⟨j, hj, h⟩ := h
  obtain ⟨k, rfl⟩ := Gf hj
  obtain rfl := hi.GH
  cases hb : Nat.blt j len with
  | false => simp [hb] at h
  | true =>
   have := Bf.1 hb
   simp [hb] at h; subst h
   refine ⟨_, ?_, Aw.ptr (o := o + j * n) hm⟩
   simp [Instr.indexAt, asIntOf, run_underlying hu, this, run_sizeOf hn, DT, Instr.sureAddr, Nat.add_assoc]
theorem XV {t : Nat} {x x' i i' r : Value} (hu : P.underlying t = some .string) (h : MW x i = some r) (hx : Aw m x x') (hi : Aw m i i') :
 ∃ r', (Instr.index t x' i').run P w = .ok r' w ∧ Aw m r r' := by
 cases hx <;> simp only [MW] at h <;> try (simp at h; done)
 case string s =>
  rw [Ae] at h
  obtain ⟨j, hj, h⟩ := h
  obtain ⟨k, rfl⟩ := Gf hj
  obtain rfl := hi.GH
  rw [Ae] at h
  obtain ⟨b, hb, h⟩ := h
  simp at h; subst h
  rw [Eb] at hb
  have hb' : s[j]? = some b := by
   obtain ⟨hlt, hb⟩ := List.getElem?_eq_some_iff.1 hb
   have hlt' : j < s.size := hlt
   rw [getElem?_pos s j hlt']
   exact congrArg some hb
  refine ⟨_, ?_, Aw.int .u8 _⟩
  simp [Instr.index, asIntOf, run_underlying hu, hb']
theorem XW {agg : Bool} {len n t e : Nat} {x x' i i' r : Value} (hu : P.underlying t = some (.array len e)) (hn : isz P e = some n) (ha : Jy P e = some agg) (h : TT agg len n x i = some r) (hx : Aw m x x') (hi : Aw m i i') :
 ∃ r', (Instr.index t x' i').run P w = .ok r' w ∧ Aw m r r' := by
 cases hx <;> simp only [TT] at h <;> try (simp at h; done)
 case agg l l' hl =>
  rw [Ae] at h
  obtain ⟨j, hj, h⟩ := h
  obtain ⟨k, rfl⟩ := Gf hj
  obtain rfl := hi.GH
  cases hb : Nat.blt j len with
  | false => simp [hb] at h
  | true =>
   have := Bf.1 hb
   simp only [hb, cond_true] at h
   obtain ⟨r', h1, h2⟩ := U3 (w := w) hn ha h hl
   refine ⟨r', ?_, h2⟩
   have h1' : (part e ⟨l'⟩ (j * n)).run P w = .ok r' w := h1
   simp [Instr.index, asIntOf, run_underlying hu, this, run_sizeOf hn, h1']
def Ed (m : Map) (o o' : Option Value) : Prop := match o, o' with
 | none, none => True
 | some v, some v' => Aw m v v'
 | _, _ => False
theorem EJ {d y n : Nat} {o o' : Option Value} (h : bound d y o = some n) (hr : Ed m o o') : (o' = none ∧ n = d) ∨ ∃ k, o' = some (.int k (n : Int)) ∧ n ≤ y := by
 cases o with
 | none =>
  cases o' with
  | none => simp [bound] at h; exact .inl ⟨rfl, h.symm⟩
  | some v => exact hr.elim
 | some v =>
  cases o' with
  | none => exact hr.elim
  | some v' =>
   simp only [bound, Ae] at h
   obtain ⟨j, hj, h⟩ := h
   obtain ⟨k, rfl⟩ := Gf hj
   obtain rfl := Aw.GH hr
   cases hb : Nat.ble j y with
   | false => simp [hb] at h
   | true => simp [hb] at h; subst h; exact .inr ⟨k, rfl, AZ.1 hb⟩
theorem DL {sl : Bool} {len cap m' h' l' : Nat} {l h mx l1 h1 m1 : Option Value} (hmx : mx.isSome = true → h1.isSome = true) (em : bound cap cap mx = some m') (eh : bound len m' h = some h') (el : bound 0 h' l = some l')
 (rm : Ed m mx m1) (rh : Ed m h h1) (rl : Ed m l l1) : (Instr.sliceBounds sl len cap l1 h1 m1).run P w = .ok (l', h', m') w := by
 rcases EJ em rm with ⟨rfl, rfl⟩ | ⟨k, rfl, hk⟩
 · rcases EJ eh rh with ⟨rfl, rfl⟩ | ⟨k2, rfl, hk2⟩
   · rcases EJ el rl with ⟨rfl, rfl⟩ | ⟨k3, rfl, hk3⟩
     · simp [Instr.sliceBounds]
     · simp [Instr.sliceBounds, Instr.sliceBound, asIntOf, hk3]
   · rcases EJ el rl with ⟨rfl, rfl⟩ | ⟨k3, rfl, hk3⟩
     · simp [Instr.sliceBounds, Instr.sliceBound, asIntOf, hk2]
     · simp [Instr.sliceBounds, Instr.sliceBound, asIntOf, hk2, hk3]
 · rcases EJ eh rh with ⟨rfl, rfl⟩ | ⟨k2, rfl, hk2⟩
   · cases mx with
     | none => exact rm.elim
     | some v => simp at hmx
   · rcases EJ el rl with ⟨rfl, rfl⟩ | ⟨k3, rfl, hk3⟩
     · simp [Instr.sliceBounds, Instr.sliceBound, asIntOf, hk, hk2]
     · simp [Instr.sliceBounds, Instr.sliceBound, asIntOf, hk, hk2, hk3]
theorem VB {t : Nat} {x x' r : Value} {l h l1 h1 : Option Value} (hu : P.underlying t = some .string) (hv : JB l h x = some r) (hx : Aw m x x') (rl : Ed m l l1) (rh : Ed m h h1) :
 ∃ r', (Instr.sliceAt t x' l1 h1 none).run P w = .ok r' w ∧ Aw m r r' := by
 cases hx <;> simp only [JB] at hv <;> try (simp at hv; done)
 case string s =>
  simp only [Ae] at hv
  obtain ⟨h', eh, l', el, hv⟩ := hv
  simp at hv; subst hv
  have hb := DL (P := P) (w := w) (m := m) (sl := false) (len := s.size) (cap := s.size) (mx := none) (m1 := none) (m' := s.size) (by simp) rfl eh el trivial rh rl
  refine ⟨.string (s.extract l' h'), ?_, ?_⟩
  · simp [Instr.sliceAt, Instr.slice, run_underlying hu, hb]
  · have : s.extract l' h' = ofL (((toL s).take h').drop l') := by
     apply Rq
     simp [toL, List.drop_take]
    rw [this]; exact .string _
theorem Rx (b o n l h m' c : Nat) : slAt ⟨b, o, none⟩ n l h m' c = .slice (some ⟨b, if m' = l then o else o + l * n, none⟩) (h - l) c := by
 unfold slAt
 by_cases e : m' = l
 · simp [Ef e, e]
 · simp [Iy e, e, Fv]
theorem VD {len n t e : Nat} {x x' r : Value} {l h l1 h1 : Option Value} (hu : P.underlying t = some (.array len e)) (hl : len < UNK) (hn : isz P e = some n) (hv : RY len n l h x = some r) (hx : Aw m x x') (rl : Ed m l l1) (rh : Ed m h h1) :
 ∃ r', (Instr.sliceAt t x' l1 h1 none).run P w = .ok r' w ∧ Aw m r r' := by
 cases hx <;> simp only [RY] at hv <;> try (simp at hv; done)
 case ptr b o p hm =>
  simp only [Ae] at hv
  obtain ⟨h', eh, l', el, hv⟩ := hv
  have hv := (Option.some.inj hv).symm
  subst hv
  have hb := DL (P := P) (w := w) (m := m) (sl := false) (len := len) (cap := len) (mx := none) (m1 := none) (m' := len) (by simp) rfl eh el trivial rh rl
  rw [Rx]
  refine ⟨_, ?_, Aw.slK (o := if len = l' then o else o + l' * n) hm (Nat.lt_of_le_of_lt (Nat.sub_le _ _) hl)⟩
  simp only [Instr.sliceAt, Sem.run_bind, run_underlying hu, Result.andThen, Instr.sureAddr, Sem.run_pure, hb, run_sizeOf hn]
  by_cases e : len = l'
  · simp [e]
  · simp [e, DT, Nat.add_assoc]
theorem aW {t t0 : Nat} {z : Value} {ok : Bool} {x x' r : Value} (hu : Pz (P.underlying t) = true) (hz : GV P t = some z) (hzr : Aw m z z) (h : pTas t z ok x = some r) (hx : Aw m x x') :
 ∃ r', (Instr.typeAssert x' t0 t ok).run P w = .ok r' w ∧ Aw m r r' := by
 cases hd : P.underlying t with
 | none => simp [hd, Pz] at hu
 | some d =>
  cases hx <;> simp only [pTas] at h <;> try (simp at h; done)
  case Rn =>
   cases ok <;> simp at h
   subst h
   refine ⟨_, ?_, .tuple (.cons hzr (.cons (.bool false) .nil))⟩
   cases d <;> first | (simp [hd, Pz] at hu; done) | simp [Instr.typeAssert, run_underlying hd, EU hz]
  case iface u v v' hv =>
   by_cases e : u = t
   · subst e
     simp at h; subst h
     cases ok with
     | true =>
      refine ⟨_, ?_, .tuple (.cons hv (.cons (.bool true) .nil))⟩
      cases d <;> first | (simp [hd, Pz] at hu; done) | simp [Instr.typeAssert, run_underlying hd]
     | false =>
      refine ⟨v', ?_, hv⟩
      cases d <;> first | (simp [hd, Pz] at hu; done) | simp [Instr.typeAssert, run_underlying hd]
   · simp only [Iy e, cond_false] at h
     cases ok <;> simp at h
     subst h
     refine ⟨_, ?_, .tuple (.cons hzr (.cons (.bool false) .nil))⟩
     cases d <;> first | (simp [hd, Pz] at hu; done) | simp [Instr.typeAssert, run_underlying hd, EU hz, e]
theorem aX {i : Nat} {x x' r : Value} (h : pExt i x = some r) (hx : Aw m x x') : ∃ r', (Instr.extract x' i).run P w = .ok r' w ∧ Aw m r r' := by
 cases hx <;> simp only [pExt] at h <;> try (simp at h; done)
 case tuple l l' hl =>
  rw [Eb] at h
  obtain ⟨r', h1, h2⟩ := hl.get _ _ h
  exact ⟨r', by simp [Instr.extract, h1], h2⟩
theorem gu {op : UnOp} {x x' r : Value} (h : unV op x = some r) (hx : Aw m x x') : ∃ r', (Op.unary op x').run P w = .ok r' w ∧ Aw m r r' := by
 cases hx <;> simp only [unV] at h <;> try (simp at h; done)
 case bool b =>
  cases op <;> simp at h
  subst h
  exact ⟨_, by simp [Op.unary], .bool _⟩
 case int k n =>
  cases op <;> simp only [] at h <;> try (simp at h; done)
  case neg =>
   have h := (Option.some.inj h).symm
   subst h
   refine ⟨_, ?_, .int _ _⟩
   simp only [Op.unary, Op.intArith, GZ, Sem.run_pure, Int.zero_sub]
   rfl
  case xor =>
   have h := (Option.some.inj h).symm
   subst h
   refine ⟨_, ?_, .int _ _⟩
   simp [Op.unary, Op.intBits]
theorem XY {src dst : Nat} {k : IntKind} {x x' r : Value} (hs : (P.underlying src).isSome = true) (hd : P.underlying dst = some (.int k)) (h : MV k x = some r) (hx : Aw m x x') :
 ∃ r', (convert src dst x').run P w = .ok r' w ∧ Aw m r r' := by
 cases hx <;> simp only [MV] at h <;> try (simp at h; done)
 case int k' n =>
  simp at h; subst h
  refine ⟨_, ?_, .int _ _⟩
  obtain ⟨d, hd'⟩ := Option.isSome_iff_exists.1 hs
  simp [convert, run_underlying hd', run_underlying hd, Conv.intToInt, GZ]
theorem XZ {src dst : Nat} {x x' r : Value} (hs : (P.underlying src).isSome = true) (hd : P.underlying dst = some .string) (h : WV x = some r) (hx : Aw m x x') :
 ∃ r', (convert src dst x').run P w = .ok r' w ∧ Aw m r r' := by
 cases hx <;> simp only [WV] at h <;> try (simp at h; done)
 case string s =>
  simp at h; subst h
  refine ⟨_, ?_, .string _⟩
  obtain ⟨d, hd'⟩ := Option.isSome_iff_exists.1 hs
  simp [convert, run_underlying hd', run_underlying hd]
theorem gy {mx : Bool} {a b a' b' r : Value} (h : mm2 mx a b = some r) (ha : Aw m a a') (hb : Aw m b b') : ((if mx then Builtin.max2 else Builtin.min2) a' b').run P w = .ok r w ∧ Aw m r r := by
 cases ha <;> cases hb <;> simp only [mm2] at h <;> try (simp at h; done)
 case int.int k x k' y =>
  have h := (Option.some.inj h).symm
  subst h
  refine ⟨?_, .int _ _⟩
  cases mx <;> simp [Builtin.max2, Builtin.min2, JG] <;> split <;> rfl
theorem Wu {mx : Bool} : ∀ {l l' : List Value} {a a' r : Value}, mmL mx a l = some r → Aw m a a' → Bo m l l' → ∃ r', (l'.foldlM (if mx then Builtin.max2 else Builtin.min2) a').run P w = .ok r' w ∧ Aw m r r'
 | [], [], a, a', r, h, ha, _ => by
  simp [mmL] at h; subst h
  exact ⟨a', by simp, ha⟩
 | b :: l, _, a, a', r, h, ha, .cons hb ht => by
  simp only [mmL, Ae] at h
  obtain ⟨c, h1, h2⟩ := h
  obtain ⟨e1, e2⟩ := gy (P := P) (w := w) h1 ha hb
  obtain ⟨r', e3, e4⟩ := Wu h2 e2 ht
  refine ⟨r', ?_, e4⟩
  simp only [List.foldlM_cons, Sem.run_bind, e1, Result.andThen, e3]
theorem Wv {mx : Bool} {l l' : List Value} {r : Value} {ts : Array TypeId} {t : TypeId} (h : mmA mx l = some r) (hl : Bo m l l') : ∃ r', (if mx then Builtin.max_ ts t ⟨l'⟩ else Builtin.min_ ts t ⟨l'⟩).run P w = .ok r' w ∧ Aw m r r' := by
 cases hl with
 | nil => simp [mmA] at h
 | cons ha ht =>
  obtain ⟨r', h1, h2⟩ := Wu (P := P) (w := w) (show mmL mx _ _ = some r from h) ha ht
  refine ⟨r', ?_, h2⟩
  cases mx <;> simpa [Builtin.max_, Builtin.min_] using h1
end
end Go.Im

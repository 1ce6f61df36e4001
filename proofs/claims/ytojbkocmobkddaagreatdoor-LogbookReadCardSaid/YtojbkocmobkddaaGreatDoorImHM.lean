/- Plain law of the distance: swaps compass by compass are sa many sa the rings tell. -/
import Derived.Test.YtojbkocmobkddaaGreatDoorImPB
set_option linter.all false
namespace Go.Im
def atD (h : List Nat) (i : Nat) : Nat := h.getD i 0
def mtD (m : List Bool) (i : Nat) : Bool := m.getD i true
def Ia (h : List Nat) (c d : Nat) : List Nat := (h.set c (atD h d)).set d (atD h c)
def DU : Nat → List Nat → Nat → List (Nat × Nat) × List Nat
 | 0, h, _ => ([], h)
 | f + 1, h, c => if atD h c = c then ([], h) else ((c, atD h c) :: (DU f (Ia h c (atD h c)) c).1, (DU f (Ia h c (atD h c)) c).2)
def Uh (n : Nat) : List Nat → List Nat → List (Nat × Nat) × List Nat
 | [], h => ([], h)
 | c :: cs, h => ((DU n h c).1 ++ (Uh n cs (DU n h c).2).1, (Uh n cs (DU n h c).2).2)
def QT (h : List Nat) : Nat → List Bool → Nat → Int → List Bool × Nat × Int
 | 0, m, i, out => (m, i, out)
 | f + 1, m, i, out => if mtD m i = true then (m, i, out) else QT h f (m.set i true) (atD h i) (out + 1)
structure Perm (h : List Nat) : Prop where
 lt : ∀ i, i < h.length → atD h i < h.length
 inj : ∀ i j, i < h.length → j < h.length → atD h i = atD h j → i = j
def unm : List Bool → Nat
 | [] => 0
 | b :: l => (if b then 0 else 1) + unm l
theorem Ui : ∀ (m : List Bool) (i : Nat), m[i]? = some false → unm (m.set i true) + 1 = unm m
 | [], i, h => by simp at h
 | b :: l, 0, h => by simp at h; subst h; simp [unm]; omega
 | b :: l, i + 1, h => by
  simp at h
  have := Ui l i h
  simp [unm]; omega
theorem kK : ∀ m : List Bool, unm m ≤ m.length
 | [] => Nat.le_refl _
 | b :: l => by have := kK l; simp [unm]; split <;> omega
theorem kL {m : List Bool} {i : Nat} (hi : i < m.length) (h : mtD m i = false) : m[i]? = some false := by
 unfold mtD at h
 rw [List.getD_eq_getElem?_getD, List.getElem?_eq_getElem hi] at h
 rw [List.getElem?_eq_getElem hi]; simpa using h
theorem Yk (m : List Bool) (i j : Nat) (hi : i < m.length) : mtD (m.set i true) j = if j = i then true else mtD m j := by
 unfold mtD
 rw [List.getD_eq_getElem?_getD, List.getD_eq_getElem?_getD]
 by_cases e : j = i
 · subst e; rw [List.getElem?_set_self hi]; simp
 · rw [List.getElem?_set_ne (Ne.symm e), if_neg e]
theorem Yl (h : List Nat) (i j v : Nat) (hi : i < h.length) : atD (h.set i v) j = if j = i then v else atD h j := by
 unfold atD
 rw [List.getD_eq_getElem?_getD, List.getD_eq_getElem?_getD]
 by_cases e : j = i
 · subst e; rw [List.getElem?_set_self hi]; simp
 · rw [List.getElem?_set_ne (Ne.symm e), if_neg e]
theorem GL (h : List Nat) (c d : Nat) : (Ia h c d).length = h.length := by unfold Ia; simp
theorem QU (h : List Nat) {c d : Nat} (hc : c < h.length) (hd : d < h.length) (j : Nat) : atD (Ia h c d) j = if j = d then atD h c else if j = c then atD h d else atD h j := by
 unfold Ia
 rw [Yl _ _ _ _ (by simpa using hd), Yl _ _ _ _ hc]
structure Outer (g p : List Nat) (m : List Bool) : Prop where
 pl : p.length = g.length
 ml : m.length = g.length
 fx : ∀ z, z < g.length → mtD m z = true → atD p z = z
 un : ∀ z, z < g.length → mtD m z = false → atD p z = atD g z
 sj : ∀ z, z < g.length → mtD m z = true → ∃ y, y < g.length ∧ mtD m y = true ∧ atD g y = z
structure Inner (g p : List Nat) (m : List Bool) (c i q : Nat) : Prop where
 pl : p.length = g.length
 ml : m.length = g.length
 cl : c < g.length
 ci : atD p c = i
 fx : ∀ z, z < g.length → z ≠ c → mtD m z = true → atD p z = z
 un : ∀ z, z < g.length → z ≠ c → mtD m z = false → atD p z = atD g z
 mc : mtD m c = true
 il : i < g.length
 ql : q < g.length
 mq : mtD m q = true
 gq : atD g q = i
 sj : ∀ z, z < g.length → z ≠ c → mtD m z = true → ∃ y, y < g.length ∧ mtD m y = true ∧ y ≠ q ∧ atD g y = z
theorem ny {b : Bool} : b = true ∨ b = false := by cases b <;> simp
theorem ring_step {g : List Nat} (hg : Perm g) (c : Nat) : ∀ (f : Nat) (p : List Nat) (m : List Bool) (i q : Nat) (out : Int), Inner g p m c i q → unm m ≤ f →
 ∃ p' m' i', (DU f p c).2 = p' ∧ QT g f m i out = (m', i', out + (DU f p c).1.length) ∧ Outer g p' m' ∧ mtD m' i' = true ∧ atD p' c = c ∧ mtD m' c = true ∧ (∀ z, mtD m z = true → mtD m' z = true)
 | f, p, m, i, q, out, h, hf => by
  by_cases e : i = c
  · have e1 : DU f p c = ([], p) := by cases f with | zero => rfl | succ f => unfold DU; rw [if_pos (h.ci.trans e)]
    have mi : mtD m i = true := by rw [e]; exact h.mc
    have e2 : QT g f m i out = (m, i, out) := by cases f with | zero => rfl | succ f => unfold QT; rw [if_pos mi]
    refine ⟨p, m, i, by rw [e1], by rw [e1, e2]; simp, ⟨h.pl, h.ml, ?_, ?_, ?_⟩, mi, h.ci.trans e, h.mc, fun _ h => h⟩
    · intro z hz hm
      by_cases ez : z = c
      · rw [ez]; exact h.ci.trans e
      · exact h.fx z hz ez hm
    · intro z hz hm
      exact h.un z hz (fun ez => by rw [ez, h.mc] at hm; cases hm) hm
    · intro z hz hm
      by_cases ez : z = c
      · exact ⟨q, h.ql, h.mq, by rw [h.gq, e, ez]⟩
      · obtain ⟨y, a, b, _, d⟩ := h.sj z hz ez hm
        exact ⟨y, a, b, d⟩
  · have mi : mtD m i = false := by
     rcases ny (b := mtD m i) with hm | hm
     · obtain ⟨y, a, b, d, e'⟩ := h.sj i h.il e hm
       exact absurd (hg.inj y q a h.ql (e'.trans h.gq.symm)) d
     · exact hm
    have ilm : i < m.length := by rw [h.ml]; exact h.il
    have us := Ui m i (kL ilm mi)
    match f, hf with
    | 0, hf => omega
    | f + 1, hf =>
     have pi : atD p i = atD g i := h.un i h.il e mi
     have cp : c < p.length := by rw [h.pl]; exact h.cl
     have ip : i < p.length := by rw [h.pl]; exact h.il
     have sa := fun j => QU p cp ip j
     have ms := fun j => Yk m i j ilm
     have inn : Inner g (Ia p c i) (m.set i true) c (atD g i) i := by
      refine ⟨by rw [GL]; exact h.pl, by simp [h.ml], h.cl, ?_, ?_, ?_, ?_, hg.lt i h.il, h.il, ?_, rfl, ?_⟩
      · rw [sa, if_neg (Ne.symm e), if_pos rfl, pi]
      · intro z hz hc hm
        rw [sa]
        by_cases ez : z = i
        · rw [if_pos ez, h.ci, ez]
        · rw [if_neg ez, if_neg hc]
          rw [ms, if_neg ez] at hm
          exact h.fx z hz hc hm
      · intro z hz hc hm
        rw [ms] at hm
        by_cases ez : z = i
        · rw [if_pos ez] at hm; cases hm
        · rw [if_neg ez] at hm
          rw [sa, if_neg ez, if_neg hc]
          exact h.un z hz hc hm
      · rw [ms]; split
        · rfl
        · exact h.mc
      · rw [ms, if_pos rfl]
      · intro z hz hc hm
        rw [ms] at hm
        by_cases ez : z = i
        · refine ⟨q, h.ql, ?_, fun eq => ?_, by rw [h.gq, ez]⟩
          · rw [ms]; split
            · rfl
            · exact h.mq
          · have := h.mq; rw [eq, mi] at this; cases this
        · rw [if_neg ez] at hm
          obtain ⟨y, a, b, d, e'⟩ := h.sj z hz hc hm
          refine ⟨y, a, ?_, fun ey => ?_, e'⟩
          · rw [ms]; split
            · rfl
            · exact b
          · rw [ey, mi] at b; cases b
     obtain ⟨p', m', i', r1, r2, r3, r4, r5, r6, r7⟩ := ring_step hg c f _ _ _ _ (out + 1) inn (by omega)
     have e1 : DU (f + 1) p c = ((c, i) :: (DU f (Ia p c i) c).1, (DU f (Ia p c i) c).2) := by
      rw [DU, h.ci, if_neg e]
     have e2 : QT g (f + 1) m i out = QT g f (m.set i true) (atD g i) (out + 1) := by
      rw [QT, mi]; simp
     refine ⟨p', m', i', by rw [e1]; exact r1, ?_, r3, r4, r5, r6, fun z hz => r7 z ?_⟩
     · rw [e1, e2, r2]
       simp only [List.length_cons]
       congr 2; omega
     · rw [ms]; split
       · rfl
       · exact hz
theorem Mc (n z : Nat) (h : z < n) : mtD (List.replicate n false) z = false := by
 unfold mtD; rw [List.getD_eq_getElem?_getD, List.getElem?_replicate, if_pos h]; rfl
theorem outer0 (g : List Nat) : Outer g g (List.replicate g.length false) :=
 ⟨rfl, by simp, (fun z hz h => by rw [Mc _ _ hz] at h; cases h), (fun _ _ _ => rfl), (fun z hz h => by rw [Mc _ _ hz] at h; cases h)⟩
def Uj (h : List Nat) : List (Nat × Nat) := (Uh h.length (List.range h.length) h).1
end Go.Im
set_option maxRecDepth 100000
set_option maxHeartbeats 4000000
namespace Go.Im
def homesOf (O : Off) (k : Nat) : List Nat := (List.range O.comps.length).map fun c => (D7 O.parts (partAt O.comps c k)).toNat
theorem CP (O : Off) (k : Nat) : (homesOf O k).length = O.comps.length := by simp [homesOf]
theorem ET (O : Off) (k c : Nat) : (homesOf O k)[c]? = if c < O.comps.length then some (D7 O.parts (partAt O.comps c k)).toNat else none := by
 unfold homesOf
 rw [List.getElem?_map]
 by_cases h : c < O.comps.length
 · rw [List.getElem?_range h, if_pos h]; rfl
 · rw [if_neg h, List.getElem?_eq_none (by simp; omega)]; rfl
theorem Np {O : Off} {k c : Nat} (h : c < O.comps.length) : atD (homesOf O k) c = (D7 O.parts (partAt O.comps c k)).toNat := by
 unfold atD; rw [List.getD_eq_getElem?_getD, ET, if_pos h]; rfl
theorem Ib {O O' : Off} {k : Nat} (hl : O'.comps.length = O.comps.length) (h : ∀ c, c < O.comps.length → D7 O'.parts (partAt O'.comps c k) = D7 O.parts (partAt O.comps c k)) : homesOf O' k = homesOf O k := by
 apply List.ext_getElem?
 intro c
 rw [ET, ET, hl]
 by_cases hc : c < O.comps.length
 · rw [if_pos hc, if_pos hc, h c hc]
 · rw [if_neg hc, if_neg hc]
theorem QV {P Q : List (Int × Int)} {i : Nat} (h : i < P.length) : D7 (P ++ Q) i = D7 P i := by unfold D7; rw [List.getElem?_append_left h]
theorem Uk {O : Off} {K : List Nat} (h : Ei O K) (a : List UInt8) {k : Nat} (hk : k < 4) : homesOf (O.arrive a) k = homesOf O k ++ [O.comps.length] := by
 apply List.ext_getElem?
 intro c
 rw [ET, F6]
 simp only [List.length_append, List.length_singleton]
 by_cases hc : c < O.comps.length
 · obtain ⟨t, h1, _⟩ := h.at_ c k hc hk
   rw [if_pos (by omega), List.getElem?_append_left (by rw [CP]; exact hc), ET, if_pos hc, IX _ _ _ _ hc, QV (BK h1)]
 · by_cases e : c = O.comps.length
   · subst e
     rw [if_pos (by omega), List.getElem?_append_right (by rw [CP]; exact Nat.le_refl _), CP, Nat.sub_self, IY]
     have : D7 (O.parts ++ [((O.comps.length : Int), (O.comps.length : Int)), ((O.comps.length : Int), (O.comps.length : Int)), ((O.comps.length : Int), (O.comps.length : Int)), ((O.comps.length : Int), (O.comps.length : Int))]) ([O.parts.length, O.parts.length + 1, O.parts.length + 2, O.parts.length + 3].getD k 0) = (O.comps.length : Int) := by
      unfold D7
      match k, hk with
      | 0, _ => simp
      | 1, _ => simp
      | 2, _ => simp
      | 3, _ => simp
     simp only [this]
     simp
   · rw [if_neg (by omega), List.getElem?_eq_none (by rw [List.length_append, CP]; simp; omega)]
theorem XV {O : Off} {K : List Nat} (h : Ei O K) {c d k : Nat} (hc : c < O.comps.length) (hd : d < O.comps.length) (hcd : c ≠ d) (hk : k < 4) (l : Nat) : homesOf (O.swap c d k) l = if l = k then Ia (homesOf O k) c d else homesOf O l := by
 have ok1 := H6 h.ok c k (partAt O.comps d k)
 have pa : ∀ i l, partAt (O.swap c d k).comps i l = if i = d ∧ l = k then partAt O.comps c k else if i = c ∧ l = k then partAt O.comps d k else partAt O.comps i l := by
  intro i l
  show partAt (setPart (setPart _ _ _ _) _ _ _) i l = _
  rw [Fv _ ok1 _ _ _ _ _ (by rw [Bg]; exact hd) hk, Fv _ h.ok _ _ _ _ _ hc hk]
 have hl : (O.swap c d k).comps.length = O.comps.length := by show (setPart (setPart _ _ _ _) _ _ _).length = _; rw [Bg, Bg]
 have hp : ∀ x, D7 (O.swap c d k).parts x = D7 O.parts x := fun x => by show D7 (setH (setH _ _ _) _ _) x = _; rw [IE, IE]
 by_cases e : l = k
 · rw [if_pos e]; subst e
   apply List.ext_getElem?
   intro i
   have hcl : c < (homesOf O l).length := by rw [CP]; exact hc
   have hdl : d < (homesOf O l).length := by rw [CP]; exact hd
   rw [ET, hl]
   by_cases hi : i < O.comps.length
   · have hil : i < (Ia (homesOf O l) c d).length := by rw [GL, CP]; exact hi
     have ea := QU (homesOf O l) hcl hdl i
     have eb : (Ia (homesOf O l) c d)[i]? = some (atD (Ia (homesOf O l) c d) i) := by unfold atD; rw [List.getD_eq_getElem?_getD, List.getElem?_eq_getElem hil]; rfl
     rw [if_pos hi, eb, ea, hp, pa, Np hc, Np hd, Np hi]
     by_cases e1 : i = d
     · simp [e1]
     · by_cases e2 : i = c
       · simp [e2, hcd]
       · simp [e1, e2]
   · rw [if_neg hi, List.getElem?_eq_none (by rw [GL, CP]; omega)]
 · rw [if_neg e]
   refine Ib hl fun i hi => ?_
   rw [hp, pa, if_neg (fun hh => e hh.2), if_neg (fun hh => e hh.2)]
theorem XW (O : Off) (c hd : Nat) (v : Int) (t : Bool) (l : Nat) : homesOf (O.tell c hd v t) l = homesOf O l := by
 refine Ib (by show (setTold (setCard _ _ _ _) _ _ _).length = _; rw [IB, F5]) fun i hi => ?_
 show D7 O.parts (partAt (setTold (setCard _ _ _ _) _ _ _) i l) = _
 rw [Ju, Jt]
theorem XY {O : Off} {K : List Nat} (h : Ei O K) {c k : Nat} (hc : c < O.comps.length) (hk : k < 4) {l : Nat} (hl4 : l < 4) : homesOf (O.mend c k) l = homesOf O l := by
 rw [IG hc]
 refine Ib (Bg _ _ _ _) fun i hi => ?_
 show D7 (setH _ _ _ ++ _) (partAt (setPart _ _ _ _) i l) = _
 rw [Fv _ h.ok _ _ _ _ _ hc hk]
 by_cases e : i = c ∧ l = k
 · rw [if_pos e, e.1, e.2]
   unfold D7
   rw [List.getElem?_append_right (by rw [D9]; exact Nat.le_refl _), D9, Nat.sub_self]; rfl
 · rw [if_neg e]
   obtain ⟨t, h1, _⟩ := h.at_ i l hi hl4
   rw [QV (by rw [D9]; exact BK h1), IE]
theorem Perm.app {h : List Nat} (p : Perm h) : Perm (h ++ [h.length]) := by
 have at1 : ∀ i, i < h.length → atD (h ++ [h.length]) i = atD h i := fun i hi => by unfold atD; rw [List.getD_eq_getElem?_getD, List.getD_eq_getElem?_getD, List.getElem?_append_left hi]
 have at2 : atD (h ++ [h.length]) h.length = h.length := by unfold atD; rw [List.getD_eq_getElem?_getD, List.getElem?_append_right (Nat.le_refl _)]; simp
 refine ⟨fun i hi => ?_, fun i j hi hj e => ?_⟩
 · simp at hi ⊢
   by_cases c : i < h.length
   · rw [at1 i c]; have := p.lt i c; omega
   · obtain rfl : i = h.length := by omega
     rw [at2]; omega
 · simp at hi hj
   by_cases c : i < h.length
   · by_cases d : j < h.length
     · rw [at1 i c, at1 j d] at e; exact p.inj i j c d e
     · obtain rfl : j = h.length := by omega
       rw [at1 i c, at2] at e; have := p.lt i c; omega
   · obtain rfl : i = h.length := by omega
     by_cases d : j < h.length
     · rw [at1 j d, at2] at e; have := p.lt j d; omega
     · omega
theorem Perm.sw {h : List Nat} (p : Perm h) {c d : Nat} (hc : c < h.length) (hd : d < h.length) : Perm (Ia h c d) := by
 have sa := QU h hc hd
 refine ⟨fun i hi => ?_, fun i j hi hj e => ?_⟩
 · rw [GL] at hi ⊢
   rw [sa]; split
   · exact p.lt c hc
   · split
     · exact p.lt d hd
     · exact p.lt i hi
 · rw [GL] at hi hj
   rw [sa, sa] at e
   by_cases i1 : i = d
   · rw [if_pos i1] at e
     by_cases j1 : j = d
     · omega
     · rw [if_neg j1] at e
       by_cases j2 : j = c
       · rw [if_pos j2] at e; have := p.inj c d hc hd e; omega
       · rw [if_neg j2] at e; have := p.inj c j hc hj e; omega
   · rw [if_neg i1] at e
     by_cases i2 : i = c
     · rw [if_pos i2] at e
       by_cases j1 : j = d
       · rw [if_pos j1] at e; have := p.inj d c hd hc e; omega
       · rw [if_neg j1] at e
         by_cases j2 : j = c
         · omega
         · rw [if_neg j2] at e; have := p.inj d j hd hj e; omega
     · rw [if_neg i2] at e
       by_cases j1 : j = d
       · rw [if_pos j1] at e; have := p.inj i c hi hc e; omega
       · rw [if_neg j1] at e
         by_cases j2 : j = c
         · rw [if_pos j2] at e; have := p.inj i d hi hd e; omega
         · rw [if_neg j2] at e; exact p.inj i j hi hj e
theorem Vo {O : Off} {K : List Nat} (h : Ei O K) {ord : Ord} (f : Fits O ord) {l : Nat} (hl : l < 4) (p : Perm (homesOf O l)) : Perm (homesOf (O.apply ord) l) := by
 cases ord with
 | new a =>
  show Perm (homesOf (O.arrive a) l)
  rw [Uk h a hl, ← CP O l]; exact p.app
 | swap a b k =>
  obtain ⟨ca, cb, e, hk, _⟩ := KN f
  show Perm (homesOf (O.swap _ _ _) l)
  rw [XV h (Dh ca).2.1 (Dh cb).2.1 e hk]
  by_cases c : l = k.toNat
  · rw [if_pos c, ← c]; exact p.sw (by rw [CP]; exact (Dh ca).2.1) (by rw [CP]; exact (Dh cb).2.1)
  · rw [if_neg c]; exact p
 | card a k d => show Perm (homesOf (O.tell _ _ _ _) l); rw [XW]; exact p
 | mend a k =>
  obtain ⟨ca, hk, _⟩ := F7 f
  show Perm (homesOf (O.mend _ _) l)
  rw [XY h (Dh ca).2.1 hk hl]; exact p
 | undo => exact p
theorem HOk.homes {H : Hist} (h : HOk H) {l : Nat} (hl : l < 4) : Perm (homesOf (run H) l) := by
 have : ∀ n, n ≤ H.length → Perm (homesOf (run (H.take n)) l) := by
  intro n
  induction n with
  | zero => intro _; rw [List.take_zero]; exact ⟨(fun i hi => by cases hi), (fun i j hi => by cases hi)⟩
  | succ n ih =>
   intro hn
   have i := h.MS n (by omega)
   obtain ⟨x, hx⟩ := Bv (show n < H.length by omega)
   obtain ⟨f, _⟩ := h n x hx
   have e : H.take (n + 1) = H.take n ++ [x] := by rw [List.take_add_one, hx]; rfl
   rw [e, GK]
   exact Vo i.inv f hl (ih (by omega))
 have t := this H.length (Nat.le_refl _)
 rwa [List.take_length] at t
theorem Jv {x : List UInt8} : ∀ {C : List CG} {i : Nat}, BZ x C i < 0 → x ∉ nms C
 | [], _, _ => by simp [nms]
 | c :: C, i, h => by
  unfold BZ at h
  by_cases e : c.name = x
  · rw [if_pos e] at h; omega
  · rw [if_neg e] at h
    have := Jv h
    intro hm
    rcases List.mem_cons.1 (show x ∈ c.name :: nms C from hm) with h1 | h1
    · exact e h1.symm
    · exact this h1
structure NInv (C : List CG) : Prop where
 nd : (nms C).Nodup
 ok : ∀ x ∈ nms C, nameB x = true
theorem XZ {W : List (List UInt8)} {a : List UInt8} (h : GI W = .ok (.new a)) : nameB a = true := by
 unfold GI at h
 split at h
 · simp at h
 · rename_i fm hf
   by_cases hl : W.length ≠ fm.length + 1
   · rw [if_pos hl] at h; simp at h
   · rw [if_neg hl] at h
     have hl := Classical.not_not.1 hl
     by_cases h1 : Cj decimal 68 fm (W.drop 1) = true
     · rw [if_pos h1] at h; simp at h
     · rw [if_neg h1] at h
       by_cases h2 : Cj nameB 78 fm (W.drop 1) = true
       · rw [if_pos h2] at h; simp at h
       · rw [if_neg h2] at h
         by_cases h3 : Cj isKind 75 fm (W.drop 1) = true
         · rw [if_pos h3] at h; simp at h
         · rw [if_neg h3] at h
           by_cases h4 : fm = [78, 68, 68] ∧ (CS (wd W 2) 0 7 && CS (wd W 3) (-300) 300) = false
           · rw [if_pos h4] at h; simp at h
           · rw [if_neg h4] at h
             have h := (Except.ok.inj h).symm
             have h2 := Bool.eq_false_iff.2 h2
             unfold IW FZ at hf
             unfold I9 at h
             by_cases c1 : wd W 0 = MQ
             · rw [if_pos c1] at h hf
               have hf := Option.some.inj hf
               injection h with h
               subst h
               have il : (0 : Nat) < fm.length := by rw [← hf]; decide
               refine Nj h2 (i := 0) (c := 78) (by rw [← hf]; rfl) rfl ?_
               rw [List.getElem?_drop]
               unfold wd
               rw [List.getD_eq_getElem?_getD, List.getElem?_eq_getElem (by omega)]; rfl
             · rw [if_neg c1] at h
               by_cases c2 : wd W 0 = FT
               · rw [if_pos c2] at h; cases h
               · rw [if_neg c2] at h
                 by_cases c3 : wd W 0 = GV
                 · rw [if_pos c3] at h; cases h
                 · rw [if_neg c3] at h
                   by_cases c4 : wd W 0 = JW
                   · rw [if_pos c4] at h; cases h
                   · rw [if_neg c4] at h; cases h
theorem Xa {x a : List UInt8} (h : Dz x = .ok (.new a)) : nameB a = true := by
 unfold Dz at h
 by_cases c : 60 < x.length
 · rw [if_pos c] at h; simp at h
 · rw [if_neg c] at h
   by_cases c2 : DI x 32 = true
   · rw [if_pos c2] at h; exact XZ h
   · rw [if_neg c2] at h; simp at h
theorem aT {O : Off} {ord : Ord} (f : Fits O ord) : nms (O.apply ord).comps = match ord with | .new a => nms O.comps ++ [a] | _ => nms O.comps := by
 cases ord with
 | new a => show nms (O.arrive a).comps = _; rw [F6]; simp [nms, newC]
 | swap a b k => exact QS _ _ _ _
 | card a k d => show nms (setTold (setCard _ _ _ _) _ _ _) = _; rw [OI, OH]
 | mend a k =>
  obtain ⟨ca, hk, _⟩ := F7 f
  show nms (O.mend _ _).comps = _
  rw [IG (Dh ca).2.1]; exact IC _ _ _ _
 | undo => rfl
theorem NInv.apply {O : Off} (h : NInv O.comps) {ord : Ord} (f : Fits O ord) {x : List UInt8} (r : Dz x = .ok ord) : NInv (O.apply ord).comps := by
 have e := aT f
 cases ord with
 | new a =>
  simp only at e
  refine ⟨?_, ?_⟩
  · rw [e, List.nodup_append]
    refine ⟨h.nd, by simp, fun b hb c hc => ?_⟩
    rw [List.mem_singleton] at hc
    subst hc
    intro hbc
    exact Jv (Vg f).1 (by rw [← hbc]; exact hb)
  · intro y hy
    rw [e] at hy
    rcases List.mem_append.1 hy with hy | hy
    · exact h.ok y hy
    · rw [List.mem_singleton.1 hy]; exact Xa r
 | undo => exact ⟨by rw [e]; exact h.nd, by rw [e]; exact h.ok⟩
 | swap a b k => exact ⟨by rw [e]; exact h.nd, by rw [e]; exact h.ok⟩
 | card a k d => exact ⟨by rw [e]; exact h.nd, by rw [e]; exact h.ok⟩
 | mend a k => exact ⟨by rw [e]; exact h.nd, by rw [e]; exact h.ok⟩
theorem HOk.names {H : Hist} (h : HOk H) : NInv (run H).comps := by
 have : ∀ n, n ≤ H.length → NInv (run (H.take n)).comps := by
  intro n
  induction n with
  | zero => intro _; rw [List.take_zero]; exact ⟨List.nodup_nil, (fun x hx => by cases hx)⟩
  | succ n ih =>
   intro hn
   obtain ⟨x, hx⟩ := Bv (show n < H.length by omega)
   obtain ⟨f, r⟩ := h n x hx
   have e : H.take (n + 1) = H.take n ++ [x] := by rw [List.take_add_one, hx]; rfl
   rw [e, GK]
   exact (ih (by omega)).apply f r
 have t := this H.length (Nat.le_refl _)
 rwa [List.take_length] at t
def QW (c : CG) : CG := ⟨c.name, c.parts, [0, 0, 0, 0, 0, 0, 0, 0], [false, false, false, false, false, false, false, false]⟩
def blank (O : Off) : Off := ⟨O.comps.map QW, O.parts⟩
theorem Md (C : List CG) (j k : Nat) : partAt (C.map QW) j k = partAt C j k := by
 unfold partAt; rw [List.getElem?_map]; cases C[j]? <;> rfl
theorem Ei.blank {O : Off} {K : List Nat} (h : Ei O K) : Ei (blank O) K := by
 refine ⟨h.klen, ?_, ?_, ?_, ?_⟩
 · intro c hc
   obtain ⟨d, hd, rfl⟩ := List.mem_map.1 hc
   exact ⟨(h.ok d hd).1, rfl, rfl⟩
 · intro j k hj hk
   have hj : j < O.comps.length := by simpa [Im.blank] using hj
   show ∃ t, O.parts[partAt (O.comps.map QW) j k]? = some t ∧ _ ∧ K[partAt (O.comps.map QW) j k]? = some k
   rw [Md]; exact h.at_ j k hj hk
 · intro i t k h1 h2 h3
   obtain ⟨j, q1, q2, q3, q4⟩ := h.uniq i t k h1 h2 h3
   exact ⟨j, q1, by simpa [Im.blank] using q2, by show partAt (O.comps.map QW) j k = i; rw [Md]; exact q3, q4⟩
 · intro t ht
   obtain ⟨j, h1, h2⟩ := h.home t ht
   exact ⟨j, h1, by simpa [Im.blank] using h2⟩
end Go.Im
set_option maxRecDepth 100000
set_option maxHeartbeats 4000000
namespace Go.Im
theorem Xb {W : List (List UInt8)} {a : List UInt8} {k d : Int} (h : GI W = .ok (.card a k d)) : -300 ≤ d ∧ d ≤ 300 := by
 unfold GI at h
 split at h
 · simp at h
 · rename_i fm hf
   by_cases hl : W.length ≠ fm.length + 1
   · rw [if_pos hl] at h; simp at h
   · rw [if_neg hl] at h
     by_cases h1 : Cj decimal 68 fm (W.drop 1) = true
     · rw [if_pos h1] at h; simp at h
     · rw [if_neg h1] at h
       by_cases h2 : Cj nameB 78 fm (W.drop 1) = true
       · rw [if_pos h2] at h; simp at h
       · rw [if_neg h2] at h
         by_cases h3 : Cj isKind 75 fm (W.drop 1) = true
         · rw [if_pos h3] at h; simp at h
         · rw [if_neg h3] at h
           by_cases h4 : fm = [78, 68, 68] ∧ (CS (wd W 2) 0 7 && CS (wd W 3) (-300) 300) = false
           · rw [if_pos h4] at h; simp at h
           · rw [if_neg h4] at h
             have h := (Except.ok.inj h).symm
             unfold IW FZ at hf
             unfold I9 at h
             by_cases c1 : wd W 0 = MQ
             · rw [if_pos c1] at h; cases h
             · rw [if_neg c1] at h hf
               by_cases c2 : wd W 0 = FT
               · rw [if_pos c2] at h; cases h
               · rw [if_neg c2] at h hf
                 by_cases c3 : wd W 0 = GV
                 · rw [if_pos c3] at h hf
                   have hf := Option.some.inj hf
                   injection h with _ _ h
                   subst h
                   have h5 : (CS (wd W 2) 0 7 && CS (wd W 3) (-300) 300) = true := by
                    cases hb : (CS (wd W 2) 0 7 && CS (wd W 3) (-300) 300) with
                    | true => rfl
                    | false => exact absurd ⟨by rw [← hf], hb⟩ h4
                   rw [Bool.and_eq_true] at h5
                   exact TG h5.2
                 · rw [if_neg c3] at h
                   by_cases c4 : wd W 0 = JW
                   · rw [if_pos c4] at h; cases h
                   · rw [if_neg c4] at h; cases h
theorem Xd {x a : List UInt8} {k d : Int} (h : Dz x = .ok (.card a k d)) : -300 ≤ d ∧ d ≤ 300 := by
 unfold Dz at h
 by_cases c : 60 < x.length
 · rw [if_pos c] at h; simp at h
 · rw [if_neg c] at h
   by_cases c2 : DI x 32 = true
   · rw [if_pos c2] at h; exact Xb h
   · rw [if_neg c2] at h; simp at h
def Fz (C : List CG) : Prop := ∀ c ∈ C, ∀ v ∈ c.card, -300 ≤ v ∧ v ≤ 300
theorem Fz.setPart {C : List CG} (h : Fz C) (j k v : Nat) : Fz (setPart C j k v) := by
 intro c hc
 unfold Im.setPart at hc
 split at hc
 · rename_i d hd
   rcases List.mem_or_eq_of_mem_set hc with hc | rfl
   · exact h c hc
   · exact h d (List.mem_of_getElem? hd)
 · exact h c hc
theorem Fz.setCard {C : List CG} (h : Fz C) (j k : Nat) {v : Int} (hv : -300 ≤ v ∧ v ≤ 300) : Fz (setCard C j k v) := by
 intro c hc
 unfold Im.setCard at hc
 split at hc
 · rename_i d hd
   rcases List.mem_or_eq_of_mem_set hc with hc | rfl
   · exact h c hc
   · intro w hw
     rcases List.mem_or_eq_of_mem_set hw with hw | rfl
     · exact h d (List.mem_of_getElem? hd) w hw
     · exact hv
 · exact h c hc
theorem Fz.setTold {C : List CG} (h : Fz C) (j k : Nat) (v : Bool) : Fz (setTold C j k v) := by
 intro c hc
 unfold Im.setTold at hc
 split at hc
 · rename_i d hd
   rcases List.mem_or_eq_of_mem_set hc with hc | rfl
   · exact h c hc
   · exact h d (List.mem_of_getElem? hd)
 · exact h c hc
theorem HOk.cards {H : Hist} (h : HOk H) : Fz (run H).comps := by
 have : ∀ n, n ≤ H.length → Fz (run (H.take n)).comps := by
  intro n
  induction n with
  | zero => intro _; rw [List.take_zero]; intro c hc; cases hc
  | succ n ih =>
   intro hn
   obtain ⟨x, hx⟩ := Bv (show n < H.length by omega)
   obtain ⟨f, r⟩ := h n x hx
   have e : H.take (n + 1) = H.take n ++ [x] := by rw [List.take_add_one, hx]; rfl
   have i := ih (by omega)
   rw [e, GK]
   obtain ⟨y, ord⟩ := x
   cases ord with
   | new a =>
    show Fz (Off.arrive _ a).comps
    rw [F6]
    intro c hc
    rcases List.mem_append.1 hc with hc | hc
    · exact i c hc
    · rw [List.mem_singleton.1 hc]
      intro v hv
      simp [newC] at hv
      omega
   | swap a b k => exact (i.setPart _ _ _).setPart _ _ _
   | card a k d => exact (i.setCard _ _ (Xd r)).setTold _ _ _
   | mend a k =>
    obtain ⟨ca, hk, _⟩ := F7 f
    show Fz (Off.mend _ _ _).comps
    rw [IG (Dh ca).2.1]
    exact i.setPart _ _ _
   | undo => exact i
 have t := this H.length (Nat.le_refl _)
 rwa [List.take_length] at t
end Go.Im
namespace Go.Im
theorem LV : ∀ (f : Nat) (p : List Nat) (c : Nat), Perm p → c < p.length → Perm (DU f p c).2 ∧ (DU f p c).2.length = p.length ∧ (DU f p c).1.length ≤ f
 | 0, p, c, h, _ => ⟨h, rfl, Nat.le_refl _⟩
 | f + 1, p, c, h, hc => by
  rw [DU]
  by_cases e : atD p c = c
  · rw [if_pos e]; exact ⟨h, rfl, Nat.zero_le _⟩
  · rw [if_neg e]
    have hd := h.lt c hc
    obtain ⟨a, b, d⟩ := LV f (Ia p c (atD p c)) c (h.sw hc hd) (by rw [GL]; exact hc)
    rw [GL] at b
    exact ⟨a, b, by simp; omega⟩
theorem aV {p : List Nat} (hp : Perm p) {c : Nat} (hc : c < p.length) : atD (DU p.length p c).2 c = c := by
 have h := outer0 p
 have hm := Mc p.length c hc
 have clm : c < (List.replicate p.length false).length := by simpa using hc
 have us := Ui _ c (kL clm hm)
 have ul := kK (List.replicate p.length false)
 have ms := fun j => Yk (List.replicate p.length false) c j clm
 have inn : Inner p p ((List.replicate p.length false).set c true) c (atD p c) c := by
  refine ⟨rfl, by simp, hc, rfl, ?_, ?_, by rw [ms, if_pos rfl], hp.lt c hc, hc, by rw [ms, if_pos rfl], rfl, ?_⟩
  · intro z hz hzc hz2; rw [ms, if_neg hzc, Mc _ _ hz] at hz2; cases hz2
  · intro z hz hzc hz2; rfl
  · intro z hz hzc hz2; rw [ms, if_neg hzc, Mc _ _ hz] at hz2; cases hz2
 simp only [List.length_replicate] at ul
 obtain ⟨p', m', i', r1, _, _, _, r5, _⟩ := ring_step hp c p.length p _ _ _ 0 inn (by omega)
 rw [r1]; exact r5
def swk (O : Off) (k : Nat) : List (Nat × Nat × Nat) := (Uj (homesOf O k)).map fun x => (k, x.1, x.2)
def H8 (O : Off) : List (Nat × Nat × Nat) := swk O 0 ++ swk O 1 ++ swk O 2 ++ swk O 3
theorem QY (n : Nat) : ∀ (cs p : List Nat), Perm p → p.length = n → (∀ c ∈ cs, c < n) → (Uh n cs p).1.length ≤ cs.length * n
 | [], p, _, _, _ => Nat.zero_le _
 | c :: cs, p, hp, hn, hc => by
  obtain ⟨a, b, d⟩ := LV n p c hp (by rw [hn]; exact hc c (by simp))
  have e := QY n cs _ a (b.trans hn) fun x hx => hc x (by simp [hx])
  show ((DU n p c).1 ++ (Uh n cs (DU n p c).2).1).length ≤ _
  rw [List.length_append, List.length_cons, Nat.succ_mul]; omega
end Go.Im

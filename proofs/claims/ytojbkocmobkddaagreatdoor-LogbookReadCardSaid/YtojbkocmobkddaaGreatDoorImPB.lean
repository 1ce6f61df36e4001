/- Plain laws of the office: orders, what holds after them, and their reverts. -/
import Derived.Test.YtojbkocmobkddaaGreatDoorImPH
set_option linter.all false
set_option maxRecDepth 100000
namespace Go.Im
theorem G9 (P : List (Int × Int)) (i : Nat) (v : Int) (x : Nat) : (setH P i v)[x]? = if x = i then (P[i]?).map (fun t => (v, t.2)) else P[x]? := by
 unfold setH
 cases h : P[i]? with
 | none => by_cases e : x = i <;> simp [e, h]
 | some t =>
  have hl := BK h
  by_cases e : x = i
  · subst e; simp [hl]
  · simp [e, Ne.symm e]
theorem aN {P : List (Int × Int)} {i : Nat} {t : Int × Int} (h : P[i]? = some t) (v : Int) : setH (setH P i v) i t.1 = P := by
 apply List.ext_getElem?
 intro x
 rw [G9, G9, G9]
 by_cases e : x = i <;> simp [e, h]
theorem Fv (C : List CG) (hC : ∀ c ∈ C, c.ok) (j k v i l : Nat) (hj : j < C.length) (hk : k < 4) : partAt (setPart C j k v) i l = if i = j ∧ l = k then v else partAt C i l := by
 by_cases e : i = j
 · subst e
   by_cases e2 : l = k
   · subst e2; simp [EG C i l v hj hC hk]
   · obtain ⟨c, hc⟩ := Bv hj
     have e : setPart C i k v = C.set i { c with parts := c.parts.set k v } := by unfold setPart; rw [hc]
     unfold partAt
     rw [e, List.getElem?_set_self hj, hc]
     simp [e2, Ne.symm e2]
 · rw [Fq _ _ _ _ _ _ e]; simp [e]
theorem H6 {C : List CG} (hC : ∀ c ∈ C, c.ok) (j k v : Nat) : ∀ c ∈ setPart C j k v, c.ok := by
 intro c hc
 unfold setPart at hc
 split at hc
 · rename_i d hd
   rcases List.mem_or_eq_of_mem_set hc with h | rfl
   · exact hC c h
   · have := hC d (List.mem_of_getElem? hd); exact ⟨by simp [this.1], this.2.1, this.2.2⟩
 · exact hC c hc
theorem XM {C : List CG} (hC : ∀ c ∈ C, c.ok) (j k : Nat) (v : Int) : ∀ c ∈ setCard C j k v, c.ok := by
 intro c hc
 unfold setCard at hc
 split at hc
 · rename_i d hd
   rcases List.mem_or_eq_of_mem_set hc with h | rfl
   · exact hC c h
   · have := hC d (List.mem_of_getElem? hd); exact ⟨this.1, by simp [this.2.1], this.2.2⟩
 · exact hC c hc
theorem XO {C : List CG} (hC : ∀ c ∈ C, c.ok) (j k : Nat) (v : Bool) : ∀ c ∈ setTold C j k v, c.ok := by
 intro c hc
 unfold setTold at hc
 split at hc
 · rename_i d hd
   rcases List.mem_or_eq_of_mem_set hc with h | rfl
   · exact hC c h
   · have := hC d (List.mem_of_getElem? hd); exact ⟨this.1, this.2.1, by simp [this.2.2]⟩
 · exact hC c hc
def nms (C : List CG) : List (List UInt8) := C.map (·.name)
theorem Ub {C : List CG} {j : Nat} {c c' : CG} (h : C[j]? = some c) (hn : c'.name = c.name) : nms (C.set j c') = nms C := by
 unfold nms
 apply List.ext_getElem?
 intro x
 rw [List.map_set, hn]
 have hl := BK h
 by_cases e : j = x
 · subst e; rw [List.getElem?_set_self (by simp [hl])]; simp [h]
 · rw [List.getElem?_set_ne e]
theorem IC (C : List CG) (j k v : Nat) : nms (setPart C j k v) = nms C := by
 unfold setPart; split
 · rename_i c h; exact Ub h rfl
 · rfl
theorem OH (C : List CG) (j k : Nat) (v : Int) : nms (setCard C j k v) = nms C := by
 unfold setCard; split
 · rename_i c h; exact Ub h rfl
 · rfl
theorem OI (C : List CG) (j k : Nat) (v : Bool) : nms (setTold C j k v) = nms C := by
 unfold setTold; split
 · rename_i c h; exact Ub h rfl
 · rfl
theorem H7 (x : List UInt8) : ∀ (C C' : List CG) (i : Nat), nms C = nms C' → BZ x C i = BZ x C' i
 | [], [], _, _ => rfl
 | [], d :: C', _, h => by simp [nms] at h
 | c :: C, [], _, h => by simp [nms] at h
 | c :: C, d :: C', i, h => by
  simp [nms] at h
  unfold BZ
  rw [h.1, H7 x C C' (i + 1) (by unfold nms; exact h.2)]
def Ord.ok : Ord → Prop
 | .new _ => True
 | .swap _ _ k => 0 ≤ k ∧ k < 4
 | .card _ h _ => 0 ≤ h ∧ h < 8
 | .mend _ k => 0 ≤ k ∧ k < 4
 | .undo => False
def cix (C : List CG) (a : List UInt8) : Nat := (BZ a C 0).toNat
def Off.apply (O : Off) : Ord → Off
 | .new a => O.arrive a
 | .swap a b k => O.swap (cix O.comps a) (cix O.comps b) k.toNat
 | .card a h d => O.tell (cix O.comps a) h.toNat d true
 | .mend a k => O.mend (cix O.comps a) k.toNat
 | .undo => O
def Uc (K : List Nat) : Ord → List Nat
 | .new _ => K ++ [0, 1, 2, 3]
 | .mend _ k => K ++ [k.toNat]
 | _ => K
structure Ei (O : Off) (K : List Nat) : Prop where
 klen : K.length = O.parts.length
 ok : ∀ c ∈ O.comps, c.ok
 at_ : ∀ j k, j < O.comps.length → k < 4 → ∃ t, O.parts[partAt O.comps j k]? = some t ∧ t.1 = (j : Int) ∧ K[partAt O.comps j k]? = some k
 uniq : ∀ i t k, O.parts[i]? = some t → K[i]? = some k → 0 ≤ t.1 → ∃ j : Nat, t.1 = (j : Int) ∧ j < O.comps.length ∧ partAt O.comps j k = i ∧ k < 4
 home : ∀ t ∈ O.parts, ∃ j : Nat, t.2 = (j : Int) ∧ j < O.comps.length
theorem Ei.nil : Ei ⟨[], []⟩ [] := ⟨rfl, by simp, by simp, by simp, by simp⟩
theorem F6 (O : Off) (a : List UInt8) : O.arrive a = ⟨O.comps ++ [{ newC a with parts := [O.parts.length, O.parts.length + 1, O.parts.length + 2, O.parts.length + 3] }], O.parts ++ [((O.comps.length : Int), (O.comps.length : Int)), ((O.comps.length : Int), (O.comps.length : Int)), ((O.comps.length : Int), (O.comps.length : Int)), ((O.comps.length : Int), (O.comps.length : Int))]⟩ := by
 obtain ⟨C, P⟩ := O
 unfold Off.arrive Off.add
 simp [newC, List.set_append_right, List.getElem?_append_right]
theorem IX (C : List CG) (c : CG) (j k : Nat) (h : j < C.length) : partAt (C ++ [c]) j k = partAt C j k := by
 unfold partAt; rw [List.getElem?_append_left h]
theorem IY (C : List CG) (c : CG) (k : Nat) : partAt (C ++ [c]) C.length k = c.parts.getD k 0 := by
 unfold partAt; rw [List.getElem?_append_right (Nat.le_refl _)]; simp
theorem Ei.arrive {O : Off} {K : List Nat} (h : Ei O K) (a : List UInt8) : Ei (O.arrive a) (K ++ [0, 1, 2, 3]) := by
 have hk := h.klen
 rw [F6]
 refine ⟨by simp [hk], ?_, ?_, ?_, ?_⟩
 · intro c hc
   rcases List.mem_append.1 hc with hc | hc
   · exact h.ok c hc
   · rw [List.mem_singleton.1 hc]; exact ⟨rfl, rfl, rfl⟩
 · intro j k hj hk4
   simp only [List.length_append, List.length_singleton] at hj
   by_cases e : j < O.comps.length
   · obtain ⟨t, h1, h2, h3⟩ := h.at_ j k e hk4
     simp only
     rw [IX _ _ _ _ e]
     exact ⟨t, by rw [List.getElem?_append_left (BK h1)]; exact h1, h2, by rw [List.getElem?_append_left (BK h3)]; exact h3⟩
   · obtain rfl : j = O.comps.length := by omega
     simp only
     rw [IY]
     refine ⟨((O.comps.length : Int), (O.comps.length : Int)), ?_, rfl, ?_⟩
     · match k, hk4 with
       | 0, _ => simp
       | 1, _ => simp
       | 2, _ => simp
       | 3, _ => simp
     · rw [← hk]
       match k, hk4 with
       | 0, _ => simp
       | 1, _ => simp
       | 2, _ => simp
       | 3, _ => simp
 · intro i t k h1 h2 h3
   simp only at h1 ⊢
   by_cases e : i < O.parts.length
   · rw [List.getElem?_append_left e] at h1
     rw [List.getElem?_append_left (by omega)] at h2
     obtain ⟨j, q1, q2, q3, q4⟩ := h.uniq i t k h1 h2 h3
     exact ⟨j, q1, by simp; omega, by rw [IX _ _ _ _ q2]; exact q3, q4⟩
   · rw [List.getElem?_append_right (by omega)] at h1
     rw [List.getElem?_append_right (by omega), hk] at h2
     obtain ⟨d, hd⟩ : ∃ d, d = i - O.parts.length := ⟨_, rfl⟩
     rw [← hd] at h1 h2
     refine ⟨O.comps.length, ?_, by simp, ?_, ?_⟩
     · match d, h1 with
       | 0, h1 => simp at h1; rw [← h1]
       | 1, h1 => simp at h1; rw [← h1]
       | 2, h1 => simp at h1; rw [← h1]
       | 3, h1 => simp at h1; rw [← h1]
     · rw [IY]
       match d, h2, hd with
       | 0, h2, hd => simp at h2; subst h2; simp; omega
       | 1, h2, hd => simp at h2; subst h2; simp; omega
       | 2, h2, hd => simp at h2; subst h2; simp; omega
       | 3, h2, hd => simp at h2; subst h2; simp; omega
     · match d, h2 with
       | 0, h2 => simp at h2; omega
       | 1, h2 => simp at h2; omega
       | 2, h2 => simp at h2; omega
       | 3, h2 => simp at h2; omega
 · intro t ht
   simp only [List.length_append, List.length_singleton]
   rcases List.mem_append.1 ht with ht | ht
   · obtain ⟨j, h1, h2⟩ := h.home t ht; exact ⟨j, h1, by omega⟩
   · simp at ht; exact ⟨O.comps.length, by rw [ht], by omega⟩
theorem QN {P : List (Int × Int)} {i : Nat} {v : Int} {t : Int × Int} (h : t ∈ setH P i v) : ∃ u ∈ P, t.2 = u.2 := by
 unfold setH at h
 split at h
 · rename_i u hu
   rcases List.mem_or_eq_of_mem_set h with h | rfl
   · exact ⟨t, h, rfl⟩
   · exact ⟨u, List.mem_of_getElem? hu, rfl⟩
 · exact ⟨t, h, rfl⟩
theorem Ei.swap {O : Off} {K : List Nat} (h : Ei O K) {c d k : Nat} (hc : c < O.comps.length) (hd : d < O.comps.length) (hcd : c ≠ d) (hk : k < 4) : Ei (O.swap c d k) K := by
 obtain ⟨tp, p1, p2, p3⟩ := h.at_ c k hc hk
 obtain ⟨tq, q1, q2, q3⟩ := h.at_ d k hd hk
 have hpq : partAt O.comps c k ≠ partAt O.comps d k := by
  intro e; rw [e, q1] at p1; obtain rfl := Option.some.inj p1; omega
 have ok1 := H6 h.ok c k (partAt O.comps d k)
 have pa : ∀ i l, partAt (O.swap c d k).comps i l = if i = d ∧ l = k then partAt O.comps c k else if i = c ∧ l = k then partAt O.comps d k else partAt O.comps i l := by
  intro i l
  show partAt (setPart (setPart _ _ _ _) _ _ _) i l = _
  rw [Fv _ ok1 _ _ _ _ _ (by rw [Bg]; exact hd) hk, Fv _ h.ok _ _ _ _ _ hc hk]
 have ha : ∀ x, (O.swap c d k).parts[x]? = if x = partAt O.comps c k then some ((d : Int), tp.2) else if x = partAt O.comps d k then some ((c : Int), tq.2) else O.parts[x]? := by
  intro x
  show (setH (setH _ _ _) _ _)[x]? = _
  rw [G9, G9, G9]
  by_cases e1 : x = partAt O.comps c k
  · simp [e1, hpq, p1]
  · by_cases e2 : x = partAt O.comps d k
    · rw [if_neg e1, if_pos e2, if_neg e1, if_pos e2, q1]; rfl
    · simp [e1, e2]
 have hl : (O.swap c d k).comps.length = O.comps.length := by show (setPart (setPart _ _ _ _) _ _ _).length = _; rw [Bg, Bg]
 refine ⟨?_, ?_, ?_, ?_, ?_⟩
 · show _ = (setH (setH _ _ _) _ _).length; rw [D9, D9]; exact h.klen
 · exact H6 ok1 _ _ _
 · intro j l hj hl4
   rw [hl] at hj
   rw [pa]
   by_cases e1 : j = d ∧ l = k
   · rw [if_pos e1, ha, if_pos rfl]; exact ⟨_, rfl, by rw [e1.1], by rw [e1.2]; exact p3⟩
   · rw [if_neg e1]
     by_cases e2 : j = c ∧ l = k
     · rw [if_pos e2, ha, if_neg (Ne.symm hpq), if_pos rfl]; exact ⟨_, rfl, by rw [e2.1], by rw [e2.2]; exact q3⟩
     · rw [if_neg e2]
       obtain ⟨t, t1, t2, t3⟩ := h.at_ j l hj hl4
       have n1 : partAt O.comps j l ≠ partAt O.comps c k := by
        intro e; rw [e, p1] at t1; obtain rfl := Option.some.inj t1
        rw [e, p3] at t3; exact e2 ⟨by omega, (Option.some.inj t3).symm⟩
       have n2 : partAt O.comps j l ≠ partAt O.comps d k := by
        intro e; rw [e, q1] at t1; obtain rfl := Option.some.inj t1
        rw [e, q3] at t3; exact e1 ⟨by omega, (Option.some.inj t3).symm⟩
       rw [ha, if_neg n1, if_neg n2]
       exact ⟨t, t1, t2, t3⟩
 · intro i t l h1 h2 h3
   rw [hl]
   rw [ha] at h1
   by_cases e1 : i = partAt O.comps c k
   · rw [if_pos e1] at h1
     obtain rfl := Option.some.inj h1
     rw [e1, p3] at h2
     obtain rfl := Option.some.inj h2
     exact ⟨d, rfl, hd, by rw [pa, if_pos ⟨rfl, rfl⟩, e1], hk⟩
   · rw [if_neg e1] at h1
     by_cases e2 : i = partAt O.comps d k
     · rw [if_pos e2] at h1
       obtain rfl := Option.some.inj h1
       rw [e2, q3] at h2
       obtain rfl := Option.some.inj h2
       exact ⟨c, rfl, hc, by rw [pa, if_neg (fun e => hcd e.1), if_pos ⟨rfl, rfl⟩, e2], hk⟩
     · rw [if_neg e2] at h1
       obtain ⟨j, u1, u2, u3, u4⟩ := h.uniq i t l h1 h2 h3
       refine ⟨j, u1, u2, ?_, u4⟩
       rw [pa, if_neg, if_neg, u3]
       · rintro ⟨rfl, rfl⟩; exact e1 u3.symm
       · rintro ⟨rfl, rfl⟩; exact e2 u3.symm
 · intro t ht
   obtain ⟨u, hu, e⟩ := QN (show t ∈ setH (setH _ _ _) _ _ from ht)
   obtain ⟨w, hw, e'⟩ := QN hu
   rw [hl, e, e']
   exact h.home w hw
theorem Jt (C : List CG) (j h : Nat) (v : Int) (i l : Nat) : partAt (setCard C j h v) i l = partAt C i l := by
 unfold setCard
 split
 · rename_i c hc
   have hl := BK hc
   unfold partAt
   by_cases e : j = i
   · subst e; rw [List.getElem?_set_self hl, hc]
   · rw [List.getElem?_set_ne e]
 · rfl
theorem Ju (C : List CG) (j h : Nat) (v : Bool) (i l : Nat) : partAt (setTold C j h v) i l = partAt C i l := by
 unfold setTold
 split
 · rename_i c hc
   have hl := BK hc
   unfold partAt
   by_cases e : j = i
   · subst e; rw [List.getElem?_set_self hl, hc]
   · rw [List.getElem?_set_ne e]
 · rfl
theorem Ei.tell {O : Off} {K : List Nat} (h : Ei O K) (c hd : Nat) (v : Int) (t : Bool) : Ei (O.tell c hd v t) K := by
 have pa : ∀ i l, partAt (O.tell c hd v t).comps i l = partAt O.comps i l := fun i l => by show partAt (setTold (setCard _ _ _ _) _ _ _) i l = _; rw [Ju, Jt]
 have hl : (O.tell c hd v t).comps.length = O.comps.length := by show (setTold (setCard _ _ _ _) _ _ _).length = _; rw [IB, F5]
 refine ⟨h.klen, XO (XM h.ok _ _ _) _ _ _, ?_, ?_, ?_⟩
 · intro j k hj hk; rw [pa]; rw [hl] at hj; exact h.at_ j k hj hk
 · intro i t k h1 h2 h3
   obtain ⟨j, q⟩ := h.uniq i t k h1 h2 h3
   exact ⟨j, by rw [hl, pa]; exact q⟩
 · intro t ht; rw [hl]; exact h.home t ht
end Go.Im
set_option maxRecDepth 100000
namespace Go.Im
theorem IE (P : List (Int × Int)) (i : Nat) (v : Int) (x : Nat) : D7 (setH P i v) x = D7 P x := by
 unfold D7
 rw [G9]
 by_cases e : x = i
 · subst e; rw [if_pos rfl]; cases P[x]? <;> rfl
 · rw [if_neg e]
theorem IG {O : Off} {c k : Nat} (hc : c < O.comps.length) : O.mend c k = ⟨setPart O.comps c k O.parts.length, setH O.parts (partAt O.comps c k) (-1) ++ [((c : Int), D7 O.parts (partAt O.comps c k))]⟩ := by
 obtain ⟨x, hx⟩ := Bv hc
 unfold Off.mend Off.add setPart
 simp only [hx, D9, IE]
theorem Ei.mend {O : Off} {K : List Nat} (h : Ei O K) {c k : Nat} (hc : c < O.comps.length) (hk : k < 4) : Ei (O.mend c k) (K ++ [k]) := by
 obtain ⟨tp, p1, p2, p3⟩ := h.at_ c k hc hk
 have hkl := h.klen
 rw [IG hc]
 have pa := fun i l => Fv O.comps h.ok c k O.parts.length i l hc hk
 have hl := Bg O.comps c k O.parts.length
 have hplt := BK p1
 refine ⟨by simp [D9, hkl], H6 h.ok _ _ _, ?_, ?_, ?_⟩
 · intro j l hj hl4
   simp only [hl] at hj ⊢
   rw [pa]
   by_cases e : j = c ∧ l = k
   · rw [if_pos e]
     refine ⟨((c : Int), D7 O.parts (partAt O.comps c k)), ?_, by rw [e.1], ?_⟩
     · rw [List.getElem?_append_right (by rw [D9]; exact Nat.le_refl _)]; simp [D9]
     · rw [← hkl, e.2]; simp
   · rw [if_neg e]
     obtain ⟨t, t1, t2, t3⟩ := h.at_ j l hj hl4
     have n1 : partAt O.comps j l ≠ partAt O.comps c k := by
      intro e'; rw [e', p1] at t1; obtain rfl := Option.some.inj t1
      rw [e', p3] at t3; exact e ⟨by omega, (Option.some.inj t3).symm⟩
     have l1 := BK t1
     refine ⟨t, ?_, t2, ?_⟩
     · rw [List.getElem?_append_left (by rw [D9]; exact l1), G9, if_neg n1]; exact t1
     · rw [List.getElem?_append_left (by omega)]; exact t3
 · intro i t l h1 h2 h3
   simp only [hl] at h1 ⊢
   by_cases e : i < O.parts.length
   · rw [List.getElem?_append_left (by rw [D9]; exact e), G9] at h1
     rw [List.getElem?_append_left (by omega)] at h2
     by_cases e1 : i = partAt O.comps c k
     · rw [if_pos e1, p1] at h1
       obtain rfl := Option.some.inj h1
       simp at h3
     · rw [if_neg e1] at h1
       obtain ⟨j, u1, u2, u3, u4⟩ := h.uniq i t l h1 h2 h3
       refine ⟨j, u1, u2, ?_, u4⟩
       rw [pa, if_neg, u3]
       rintro ⟨rfl, rfl⟩; exact e1 u3.symm
   · have el := BK h2
     simp only [List.length_append, List.length_singleton] at el
     obtain rfl : i = O.parts.length := by omega
     rw [List.getElem?_append_right (by rw [D9]; exact Nat.le_refl _)] at h1
     simp only [D9, Nat.sub_self, List.getElem?_cons_zero] at h1
     obtain rfl := Option.some.inj h1
     rw [← hkl] at h2
     simp at h2
     exact ⟨c, rfl, hc, by rw [pa, if_pos ⟨rfl, h2.symm⟩], by omega⟩
 · intro t ht
   simp only [hl]
   rcases List.mem_append.1 ht with ht | ht
   · obtain ⟨u, hu, e⟩ := QN ht
     rw [e]; exact h.home u hu
   · rw [List.mem_singleton.1 ht]
     have : D7 O.parts (partAt O.comps c k) = tp.2 := by unfold D7; rw [p1]
     rw [this]
     exact h.home tp (List.mem_of_getElem? p1)
theorem ES {C : List CG} {j : Nat} {c : CG} (h : C[j]? = some c) (k v : Nat) : setPart C j k v = C.set j { c with parts := c.parts.set k v } := by unfold setPart; rw [h]
theorem set_self {α : Type} {l : List α} {i : Nat} {a : α} (h : l[i]? = some a) : l.set i a = l := by
 apply List.ext_getElem?
 intro x
 by_cases e : i = x
 · subst e; rw [List.getElem?_set_self (BK h), h]
 · rw [List.getElem?_set_ne e]
theorem QO {α : Type} (l : List α) (k : Nat) (d : α) (h : k < l.length) : l.set k (l.getD k d) = l := set_self (by rw [List.getElem?_eq_getElem h, List.getD_eq_getElem?_getD, List.getElem?_eq_getElem h]; rfl)
theorem JJ {C : List CG} (hC : ∀ c ∈ C, c.ok) {j k : Nat} (hj : j < C.length) (hk : k < 4) : setPart C j k (partAt C j k) = C := by
 obtain ⟨c, hc⟩ := Bv hj
 have e : partAt C j k = c.parts.getD k 0 := by unfold partAt; rw [hc]
 rw [ES hc, e, QO _ _ _ (by rw [(hC c (List.mem_of_getElem? hc)).1]; exact hk)]
 exact set_self hc
theorem IZ (C : List CG) (j k v w : Nat) : setPart (setPart C j k v) j k w = setPart C j k w := by
 cases hc : C[j]? with
 | none => have e : ∀ v, setPart C j k v = C := fun v => by unfold setPart; rw [hc]
           rw [e, e]
 | some c =>
  have hl := BK hc
  rw [ES hc, ES hc, ES (List.getElem?_set_self hl), List.set_set, List.set_set]
theorem Ud (C : List CG) {i j : Nat} (h : i ≠ j) (k v w : Nat) : setPart (setPart C i k v) j k w = setPart (setPart C j k w) i k v := by
 cases hi : C[i]? with
 | none =>
  have e : setPart C i k v = C := by unfold setPart; rw [hi]
  rw [e]
  have e2 : (setPart C j k w)[i]? = none := by
   have := BK (l := C) (i := i) (x := newC [])
   rw [List.getElem?_eq_none_iff, Bg]; rw [List.getElem?_eq_none_iff] at hi; exact hi
  unfold setPart at e2 ⊢
  rw [e2]
 | some ci =>
  cases hj : C[j]? with
  | none =>
   have e : setPart C j k w = C := by unfold setPart; rw [hj]
   rw [e]
   have e2 : (setPart C i k v)[j]? = none := by rw [List.getElem?_eq_none_iff, Bg]; rw [List.getElem?_eq_none_iff] at hj; exact hj
   unfold setPart at e2 ⊢
   rw [e2]
  | some cj =>
   rw [ES hi, ES hj, ES (by rw [List.getElem?_set_ne h]; exact hj), ES (by rw [List.getElem?_set_ne (Ne.symm h)]; exact hi), List.set_comm _ _ h]
theorem RF (O : Off) (a : List UInt8) : (O.arrive a).depart = O := by
 rw [F6]
 unfold Off.depart
 simp
theorem swap_swap {O : Off} {K : List Nat} (h : Ei O K) {c d k : Nat} (hc : c < O.comps.length) (hd : d < O.comps.length) (hcd : c ≠ d) (hk : k < 4) : (O.swap c d k).swap c d k = O := by
 obtain ⟨tp, p1, p2, p3⟩ := h.at_ c k hc hk
 obtain ⟨tq, q1, q2, q3⟩ := h.at_ d k hd hk
 have hpq : partAt O.comps c k ≠ partAt O.comps d k := by
  intro e; rw [e, q1] at p1; obtain rfl := Option.some.inj p1; omega
 have ok1 := H6 h.ok c k (partAt O.comps d k)
 have ec : partAt (O.swap c d k).comps c k = partAt O.comps d k := by
  show partAt (setPart (setPart _ _ _ _) _ _ _) _ _ = _
  rw [Fq _ _ _ _ _ _ hcd, EG _ _ _ _ hc h.ok hk]
 have ed : partAt (O.swap c d k).comps d k = partAt O.comps c k := by
  show partAt (setPart (setPart _ _ _ _) _ _ _) _ _ = _
  rw [EG _ _ _ _ (by rw [Bg]; exact hd) ok1 hk]
 have e1 : ((O.swap c d k).swap c d k).comps = O.comps := by
  show setPart (setPart (O.swap c d k).comps c k (partAt (O.swap c d k).comps d k)) d k (partAt (O.swap c d k).comps c k) = _
  rw [ec, ed]
  show setPart (setPart (setPart (setPart O.comps c k _) d k _) c k _) d k _ = _
  rw [Ud (setPart O.comps c k _) (Ne.symm hcd), IZ, IZ, JJ h.ok hc hk, JJ h.ok hd hk]
 have e2 : ((O.swap c d k).swap c d k).parts = O.parts := by
  show setH (setH (O.swap c d k).parts (partAt (O.swap c d k).comps d k) c) (partAt (O.swap c d k).comps c k) d = _
  rw [ec, ed]
  show setH (setH (setH (setH O.parts _ c) _ d) _ c) _ d = _
  apply List.ext_getElem?
  intro x
  simp only [G9]
  by_cases x1 : x = partAt O.comps c k
  · rw [x1]; simp [hpq, p1, ← p2]
  · by_cases x2 : x = partAt O.comps d k
    · rw [x2]; simp [Ne.symm hpq, q1, ← q2]
    · rw [if_neg x2, if_neg x1, if_neg x1, if_neg x2]
 cases h1 : (O.swap c d k).swap c d k
 cases O
 simp_all
theorem XP {C : List CG} {j : Nat} {c : CG} (h : C[j]? = some c) (k : Nat) (v : Int) : setCard C j k v = C.set j { c with card := c.card.set k v } := by unfold setCard; rw [h]
theorem XQ {C : List CG} {j : Nat} {c : CG} (h : C[j]? = some c) (k : Nat) (v : Bool) : setTold C j k v = C.set j { c with told := c.told.set k v } := by unfold setTold; rw [h]
theorem Yi {O : Off} {j : Nat} {c : CG} (h : O.comps[j]? = some c) (k : Nat) (v : Int) (t : Bool) : O.tell j k v t = ⟨O.comps.set j { c with card := c.card.set k v, told := c.told.set k t }, O.parts⟩ := by
 have hl := BK h
 unfold Off.tell
 rw [XP h, XQ (List.getElem?_set_self hl), List.set_set]
theorem aO {O : Off} (hO : ∀ c ∈ O.comps, c.ok) {j hd : Nat} (hj : j < O.comps.length) (hh : hd < 8) (v : Int) (t : Bool) : (O.tell j hd v t).tell j hd (JH O.comps j hd) (JI O.comps j hd) = O := by
 obtain ⟨c, hc⟩ := Bv hj
 have hok := hO c (List.mem_of_getElem? hc)
 have e1 : JH O.comps j hd = c.card.getD hd 0 := by unfold JH; rw [hc]
 have e2 : JI O.comps j hd = c.told.getD hd false := by unfold JI; rw [hc]
 rw [Yi hc, Yi (c := { c with card := c.card.set hd v, told := c.told.set hd t }) (List.getElem?_set_self hj), List.set_set, e1, e2]
 simp only [List.set_set]
 rw [QO _ _ _ (by rw [hok.2.1]; exact hh), QO _ _ _ (by rw [hok.2.2]; exact hh), set_self hc]
theorem Vf {O : Off} {K : List Nat} (h : Ei O K) {c k : Nat} (hc : c < O.comps.length) (hk : k < 4) : (O.mend c k).unmend c k (partAt O.comps c k) = O := by
 obtain ⟨tp, p1, p2, p3⟩ := h.at_ c k hc hk
 rw [IG hc]
 unfold Off.unmend
 have e1 : (setH O.parts (partAt O.comps c k) (-1) ++ [((c : Int), D7 O.parts (partAt O.comps c k))]).take ((setH O.parts (partAt O.comps c k) (-1) ++ [((c : Int), D7 O.parts (partAt O.comps c k))]).length - 1) = setH O.parts (partAt O.comps c k) (-1) := by simp
 simp only [e1]
 rw [IZ, JJ h.ok hc hk, ← p2, aN p1]
end Go.Im
set_option maxRecDepth 100000
set_option maxHeartbeats 4000000
namespace Go.Im
structure Fits (O : Off) (o : Ord) : Prop where
 ok : o.ok
 chk : O.check o = 0
theorem Dh {C : List CG} {a : List UInt8} (h : ¬ BZ a C 0 < 0) : BZ a C 0 = (cix C a : Int) ∧ cix C a < C.length ∧ ∃ c, C[cix C a]? = some c ∧ c.name = a := by
 obtain ⟨j, c, h1, h2, h3⟩ := aI (Int.not_lt.1 h)
 have e : cix C a = j := by unfold cix; rw [h3]; rfl
 rw [e]
 exact ⟨h3, BK h1, c, h1, h2⟩
theorem Vg {O : Off} {a : List UInt8} (h : Fits O (.new a)) : BZ a O.comps 0 < 0 ∧ O.comps.length ≠ 8 := by
 have := h.chk
 simp only [Off.check] at this
 by_cases c : 0 ≤ BZ a O.comps 0
 · rw [if_pos c] at this; cases this
 · rw [if_neg c] at this
   by_cases c8 : O.comps.length = 8
   · rw [if_pos c8] at this; cases this
   · exact ⟨Int.not_le.1 c, c8⟩
theorem KN {O : Off} {a b : List UInt8} {k : Int} (h : Fits O (.swap a b k)) : ¬ BZ a O.comps 0 < 0 ∧ ¬ BZ b O.comps 0 < 0 ∧ cix O.comps a ≠ cix O.comps b ∧ k.toNat < 4 ∧ k = (k.toNat : Int) := by
 have := h.chk
 have hk := h.ok
 simp only [Off.check] at this
 simp only [Ord.ok] at hk
 by_cases c : BZ a O.comps 0 < 0 ∨ BZ b O.comps 0 < 0
 · rw [if_pos c] at this; cases this
 · rw [if_neg c] at this
   by_cases e : a = b
   · rw [if_pos e] at this; cases this
   · have ca : ¬ BZ a O.comps 0 < 0 := fun h => c (.inl h)
     have cb : ¬ BZ b O.comps 0 < 0 := fun h => c (.inr h)
     refine ⟨ca, cb, ?_, by omega, by omega⟩
     intro ee
     obtain ⟨_, _, x, x1, x2⟩ := Dh ca
     obtain ⟨_, _, y, y1, y2⟩ := Dh cb
     rw [ee, y1] at x1
     obtain rfl := Option.some.inj x1
     exact e (x2.symm.trans y2)
theorem TD {O : Off} {a : List UInt8} {k d : Int} (h : Fits O (.card a k d)) : ¬ BZ a O.comps 0 < 0 ∧ k.toNat < 8 ∧ k = (k.toNat : Int) := by
 have := h.chk
 have hk := h.ok
 simp only [Off.check] at this
 simp only [Ord.ok] at hk
 by_cases c : BZ a O.comps 0 < 0
 · rw [if_pos c] at this; cases this
 · exact ⟨c, by omega, by omega⟩
theorem F7 {O : Off} {a : List UInt8} {k : Int} (h : Fits O (.mend a k)) : ¬ BZ a O.comps 0 < 0 ∧ k.toNat < 4 ∧ k = (k.toNat : Int) := by
 have := h.chk
 have hk := h.ok
 simp only [Off.check] at this
 simp only [Ord.ok] at hk
 by_cases c : BZ a O.comps 0 < 0
 · rw [if_pos c] at this; cases this
 · exact ⟨c, by omega, by omega⟩
theorem Ei.apply {O : Off} {K : List Nat} (h : Ei O K) {o : Ord} (f : Fits O o) : Ei (O.apply o) (Uc K o) := by
 cases o with
 | new a => exact h.arrive a
 | swap a b k =>
  obtain ⟨ca, cb, e, hk, _⟩ := KN f
  exact h.swap (Dh ca).2.1 (Dh cb).2.1 e hk
 | card a k d => exact h.tell _ _ _ _
 | mend a k =>
  obtain ⟨ca, hk, _⟩ := F7 f
  exact h.mend (Dh ca).2.1 hk
 | undo => exact h
theorem XR {O : Off} {o : Ord} (f : Fits O o) (h : O.comps.length ≤ 8) : (O.apply o).comps.length ≤ 8 := by
 cases o with
 | new a =>
  have := (Vg f).2
  show (O.arrive a).comps.length ≤ 8
  rw [F6]; simp; omega
 | swap a b k => show (setPart (setPart _ _ _ _) _ _ _).length ≤ 8; rw [Bg, Bg]; exact h
 | card a k d => show (setTold (setCard _ _ _ _) _ _ _).length ≤ 8; rw [IB, F5]; exact h
 | mend a k =>
  obtain ⟨ca, hk, _⟩ := F7 f
  show (O.mend _ _).comps.length ≤ 8
  rw [IG (Dh ca).2.1]; show (setPart _ _ _ _).length ≤ 8; rw [Bg]; exact h
 | undo => exact h
theorem XT {O : Off} {o : Ord} (f : Fits O o) : (O.apply o).parts.length ≤ O.parts.length + 4 := by
 cases o with
 | new a => show (O.arrive a).parts.length ≤ _; rw [F6]; simp
 | swap a b k => show (setH (setH _ _ _) _ _).length ≤ _; rw [D9, D9]; omega
 | card a k d => show O.parts.length ≤ _; omega
 | mend a k =>
  obtain ⟨ca, hk, _⟩ := F7 f
  show (O.mend _ _).parts.length ≤ _
  rw [IG (Dh ca).2.1]; simp [D9]
 | undo => show O.parts.length ≤ _; omega
def MR (O : Off) : Ord → List Value
 | .new a => [strOf a]
 | .swap a b k => [strOf a, strOf b, .int .i64 k]
 | .card a h d => [strOf a, .int .i64 h, .int .i64 d, .int .i64 (JH O.comps (cix O.comps a) h.toNat), .bool (JI O.comps (cix O.comps a) h.toNat)]
 | .mend a k => [strOf a, .int .i64 k, .int .i64 (partAt O.comps (cix O.comps a) k.toNat : Int)]
 | .undo => []
def F8 : Ord → Nat
 | .new _ => 186
 | .swap _ _ _ => 189
 | .card _ _ _ => 111
 | .mend _ _ => 112
 | .undo => 0
def TF : Ord → Nat
 | .new _ => 188
 | .swap _ _ _ => 191
 | .card _ _ _ => 193
 | .mend _ _ => 114
 | .undo => 0
section
variable {s : AA} {o : Nat} {cb pb : Option Nat} {O : Off}
theorem k196 (n : Nat) (hn : 1 ≤ n) (e o : Value) (s s' : AA) (h : AU AL Aj n (.fn 194) [e, o] s = .ok (.tuple ⟨[]⟩, s')) (hn0 : BA AL e = some e) : AU AL Aj (n + 1) (.fn 196) [e, o] s = .ok (.tuple ⟨[]⟩, s') := by
 rw [Ap 196 c196 rfl, nM]
 simp [h, hn0]
theorem kCheck (n : Nat) (h : Ah s o cb pb O) (hn : O.comps.length + 6 ≤ n) (hlen : O.comps.length < 1000000000) (ord : Ord) {ty el : Nat} {cs : List Value} (ho : TB ord = some (ty, cs, el)) (e : Nat) (hl : e < s.nx) (he : s.get e = some (.cells cs el true)) :
 Gives (invV AL (AU AL Aj n) "agonic/logbook.check" [.pointer (some ⟨o, 0, none⟩)] s (.iface ty (.pointer (some ⟨e, 0, none⟩)))) s (.int .i64 (O.check ord)) := by
 cases ord with
 | new a => injection ho with ho; injection ho with h1 ho; injection ho with h2 h3; subst h1 h2 h3; exact k192 n h hn hlen a e hl he
 | swap a b k => injection ho with ho; injection ho with h1 ho; injection ho with h2 h3; subst h1 h2 h3; exact k195 n h hn hlen a b k e hl he
 | card a k d => injection ho with ho; injection ho with h1 ho; injection ho with h2 h3; subst h1 h2 h3; exact k186 n h hn hlen a _ e hl he k d
 | mend a k => injection ho with ho; injection ho with h1 ho; injection ho with h2 h3; subst h1 h2 h3; exact k188 n h hn hlen a _ e hl he k
 | undo => cases ho
theorem kApply (n : Nat) (h : Ah s o cb pb O) {K : List Nat} (hI : Ei O K) (hn : O.comps.length + 10 ≤ n) (hlen : O.comps.length < 1000000) (hlp : O.parts.length + 4 < 1000000) (ord : Ord) (f : Fits O ord) (cs : List Value) (e : Nat) (hl : e < s.nx)
 (he : s.get e = some (.cells cs (TF ord) true)) (hcs : cs = MR O ord ∨ TB ord = some (F8 ord, cs, TF ord)) (hF : ¬ E5 o cb pb e) :
 ∃ s', invV AL (AU AL Aj n) "agonic/logbook.apply" [.pointer (some ⟨o, 0, none⟩)] s (.iface (F8 ord) (.pointer (some ⟨e, 0, none⟩))) = .ok (.tuple ⟨[]⟩, s') ∧ (∃ cb' pb', Ah s' o cb' pb' (O.apply ord) ∧ ∀ b, E5 o cb' pb' b → E5 o cb pb b ∨ s.nx ≤ b) ∧
  Fr s s' (OffE o cb pb e) ∧ s'.get e = some (.cells (MR O ord) (TF ord) true) := by
 cases ord with
 | new a =>
  have hc : cs = [strOf a] := by
   rcases hcs with h | h
   · exact h
   · injection h with h; injection h with _ h; injection h with h _; exact h.symm
  subst hc
  obtain ⟨s', d, p⟩ := k191 n (by omega) h hlen hlp a e he
  exact ⟨s', d, p.ex, p.fr.mono fun i hi => .inl hi, (p.fr.get e hl hF).trans he⟩
 | swap a b k =>
  have hc : cs = [strOf a, strOf b, .int .i64 k] := by
   rcases hcs with h | h
   · exact h
   · injection h with h; injection h with _ h; injection h with h _; exact h.symm
  subst hc
  obtain ⟨ca, cb', e', hk, ek⟩ := KN f
  obtain ⟨a1, a2, _⟩ := Dh ca
  obtain ⟨b1, b2, _⟩ := Dh cb'
  rw [ek] at he
  obtain ⟨_, p1, _⟩ := hI.at_ _ _ a2 hk
  obtain ⟨_, q1, _⟩ := hI.at_ _ _ b2 hk
  obtain ⟨s', d, p, fr⟩ := k194 n h (by omega) (by omega) a b k.toNat hk e hl he hF _ _ a1 b1 a2 b2 e' (BK p1) (BK q1)
  refine ⟨s', d, ⟨cb, pb, p, fun i hi => .inl hi⟩, fr.mono fun i hi => .inl hi, ?_⟩
  rw [fr.get e hl hF, he, ← ek]; rfl
 | card a k v =>
  obtain ⟨ca, hk, ek⟩ := TD f
  obtain ⟨a1, a2, _⟩ := Dh ca
  have hc : ∃ u1 u2, cs = [strOf a, .int .i64 (k.toNat : Int), .int .i64 v, u1, u2] := by
   rw [← ek]
   rcases hcs with h | h
   · exact ⟨_, _, h⟩
   · injection h with h; injection h with _ h; injection h with h _; exact ⟨_, _, h.symm⟩
  obtain ⟨u1, u2, rfl⟩ := hc
  obtain ⟨s', d, p, fr, g⟩ := k185 n h (by omega) (by omega) a k.toNat hk v u1 u2 e hl he hF _ a1 a2
  refine ⟨s', d, ⟨cb, pb, p, fun i hi => .inl hi⟩, fr, ?_⟩
  rw [g, ← ek]; rfl
 | mend a k =>
  obtain ⟨ca, hk, ek⟩ := F7 f
  obtain ⟨a1, a2, _⟩ := Dh ca
  have hc : ∃ u1, cs = [strOf a, .int .i64 (k.toNat : Int), u1] := by
   rw [← ek]
   rcases hcs with h | h
   · exact ⟨_, h⟩
   · injection h with h; injection h with _ h; injection h with h _; exact ⟨_, h.symm⟩
  obtain ⟨u1, rfl⟩ := hc
  obtain ⟨_, p1, _⟩ := hI.at_ _ _ a2 hk
  obtain ⟨s', d, p, fr, g⟩ := k57 n h (by omega) (by omega) (by omega) a k.toNat hk u1 e hl he hF _ a1 a2 (BK p1)
  refine ⟨s', d, p, fr, ?_⟩
  rw [g, ← ek]; rfl
 | undo => exact absurd f.ok id
theorem QS (O : Off) (c d k : Nat) : nms (O.swap c d k).comps = nms O.comps := by
 show nms (setPart (setPart _ _ _ _) _ _ _) = _; rw [IC, IC]
theorem nX (n : Nat) {K : List Nat} (hI : Ei O K) (ord : Ord) (f : Fits O ord) (h : Ah s o cb pb (O.apply ord)) (hn : O.comps.length + 10 ≤ n) (hlen : O.comps.length < 100000) (hlp : O.parts.length < 100000) (e : Nat) (hl : e < s.nx)
 (he : s.get e = some (.cells (MR O ord) (TF ord) true)) (hF : ¬ E5 o cb pb e) :
 ∃ s', invV AL (AU AL Aj n) "agonic/logbook.revert" [.pointer (some ⟨o, 0, none⟩)] s (.iface (F8 ord) (.pointer (some ⟨e, 0, none⟩))) = .ok (.tuple ⟨[]⟩, s') ∧ Ah s' o cb pb O ∧ Fr s s' (E5 o cb pb) := by
 cases ord with
 | new a =>
  have h' : Ah s o cb pb (O.arrive a) := h
  have e1 := F6 O a
  obtain ⟨s', d, p, fr⟩ := k193 n (by omega) h' (by rw [e1]; simp) (by rw [e1]; simp) (by rw [e1]; simp; omega) (by rw [e1]; simp; omega) (.pointer (some ⟨e, 0, none⟩))
  rw [RF] at p
  exact ⟨s', d, p, fr⟩
 | swap a b k =>
  obtain ⟨ca, cb', e', hk, ek⟩ := KN f
  obtain ⟨a1, a2, _⟩ := Dh ca
  obtain ⟨b1, b2, _⟩ := Dh cb'
  have h' : Ah s o cb pb (O.swap (cix O.comps a) (cix O.comps b) k.toNat) := h
  have hcl : (O.swap (cix O.comps a) (cix O.comps b) k.toNat).comps.length = O.comps.length := by show (setPart (setPart _ _ _ _) _ _ _).length = _; rw [Bg, Bg]
  have hI' := hI.swap a2 b2 e' hk
  have he' : s.get e = some (.cells [strOf a, strOf b, .int .i64 (k.toNat : Int)] 191 true) := by rw [← ek]; exact he
  obtain ⟨_, p1, _⟩ := hI'.at_ _ k.toNat (by rw [hcl]; exact a2) hk
  obtain ⟨_, q1, _⟩ := hI'.at_ _ k.toNat (by rw [hcl]; exact b2) hk
  obtain ⟨m, rfl, hm⟩ := Ac (show 1 ≤ n by omega)
  obtain ⟨s', d, p, fr⟩ := k194 m h' (by rw [hcl]; omega) (by rw [hcl]; omega) a b k.toNat hk e hl he' hF _ _ (by rw [H7 _ _ _ _ (QS _ _ _ _)]; exact a1) (by rw [H7 _ _ _ _ (QS _ _ _ _)]; exact b1) (by rw [hcl]; exact a2) (by rw [hcl]; exact b2) e' (BK p1) (BK q1)
  rw [swap_swap hI a2 b2 e' hk] at p
  exact ⟨s', k196 m (by omega) _ _ s s' d rfl, p, fr⟩
 | card a k v =>
  obtain ⟨ca, hk, ek⟩ := TD f
  obtain ⟨a1, a2, _⟩ := Dh ca
  have h' : Ah s o cb pb (O.tell (cix O.comps a) k.toNat v true) := h
  have hcl : (O.tell (cix O.comps a) k.toNat v true).comps.length = O.comps.length := by show (setTold (setCard _ _ _ _) _ _ _).length = _; rw [IB, F5]
  have hnm : nms (O.tell (cix O.comps a) k.toNat v true).comps = nms O.comps := by show nms (setTold (setCard _ _ _ _) _ _ _) = _; rw [OI, OH]
  have he' : s.get e = some (.cells [strOf a, .int .i64 (k.toNat : Int), .int .i64 v, .int .i64 (JH O.comps (cix O.comps a) k.toNat), .bool (JI O.comps (cix O.comps a) k.toNat)] 193 true) := by
   rw [he]; show some (CX.cells [strOf a, .int .i64 k, _, _, _] 193 true) = _; rw [← ek]
  obtain ⟨s', d, p, fr⟩ := k187 n h' (by rw [hcl]; omega) (by rw [hcl]; omega) a k.toNat hk v _ _ e hl he' hF _ (by rw [H7 _ _ _ _ hnm]; exact a1) (by rw [hcl]; exact a2)
  rw [aO hI.ok a2 hk] at p
  exact ⟨s', d, p, fr⟩
 | mend a k =>
  obtain ⟨ca, hk, ek⟩ := F7 f
  obtain ⟨a1, a2, _⟩ := Dh ca
  have h' : Ah s o cb pb (O.mend (cix O.comps a) k.toNat) := h
  have em := IG (k := k.toNat) a2
  have hcl : (O.mend (cix O.comps a) k.toNat).comps.length = O.comps.length := by rw [em]; exact Bg _ _ _ _
  have hpl : (O.mend (cix O.comps a) k.toNat).parts.length = O.parts.length + 1 := by rw [em]; simp [D9]
  have hnm : nms (O.mend (cix O.comps a) k.toNat).comps = nms O.comps := by rw [em]; exact IC _ _ _ _
  obtain ⟨_, p1, _⟩ := hI.at_ _ _ a2 hk
  have he' : s.get e = some (.cells [strOf a, .int .i64 (k.toNat : Int), .int .i64 (partAt O.comps (cix O.comps a) k.toNat : Int)] 114 true) := by
   rw [he]; show some (CX.cells [strOf a, .int .i64 k, _] 114 true) = _; rw [← ek]
  obtain ⟨s', d, p, fr⟩ := k189 n h' (by rw [hcl]; omega) (by rw [hcl]; omega) (by rw [hpl]; omega) a k.toNat hk _ e hl he' hF _ (by rw [H7 _ _ _ _ hnm]; exact a1) (by rw [hcl]; exact a2) (by rw [hpl]; have := BK p1; omega)
  rw [Vf hI a2 hk] at p
  exact ⟨s', d, p, fr⟩
 | undo => exact absurd f.ok id
end
end Go.Im
set_option maxRecDepth 100000
set_option maxHeartbeats 4000000
namespace Go.Im
theorem Nj {p : List UInt8 → Bool} {letter : Nat} : ∀ {fm : List UInt8} {w : List (List UInt8)} {i : Nat} {c : UInt8} {x : List UInt8}, Cj p letter fm w = false → fm[i]? = some c → c.toNat = letter → w[i]? = some x → p x = true
 | [], _, _, _, _, _, h, _, _ => by simp at h
 | c :: f, [], _, _, _, _, _, _, h => by simp at h
 | c :: f, y :: w, 0, d, x, h, h1, h2, h3 => by
  simp at h1 h3
  subst h1 h3
  unfold Cj at h
  simp [h2] at h
  exact h.1
 | c :: f, y :: w, i + 1, d, x, h, h1, h2, h3 => by
  unfold Cj at h
  simp only [Bool.or_eq_false_iff] at h
  exact Nj (i := i) h.2 (by simpa using h1) h2 (by simpa using h3)
theorem aP (x : List UInt8) : Dy x < 4 := by unfold Dy; split <;> (try split) <;> (try split) <;> (try split) <;> omega
theorem TG {x : List UInt8} {lo hi : Int} (h : CS x lo hi = true) : lo ≤ (Ec x).1 ∧ (Ec x).1 ≤ hi := by
 unfold CS at h
 split at h
 · rename_i z e; rw [e]; simpa using h
 · simp at h
theorem kF {W : List (List UInt8)} {o : Ord} (h : GI W = .ok o) : o = .undo ∨ o.ok := by
 unfold GI at h
 split at h
 · simp at h
 · rename_i fm hf
   by_cases hl : W.length ≠ fm.length + 1
   · rw [if_pos hl] at h; simp at h
   · rw [if_neg hl] at h
     have hl := Classical.not_not.1 hl
     by_cases h1 : Cj decimal 68 fm (W.drop 1) = true
     · rw [if_pos h1] at h; simp at h
     · rw [if_neg h1] at h
       by_cases h2 : Cj nameB 78 fm (W.drop 1) = true
       · rw [if_pos h2] at h; simp at h
       · rw [if_neg h2] at h
         by_cases h3 : Cj isKind 75 fm (W.drop 1) = true
         · rw [if_pos h3] at h; simp at h
         · rw [if_neg h3] at h
           by_cases h4 : fm = [78, 68, 68] ∧ (CS (wd W 2) 0 7 && CS (wd W 3) (-300) 300) = false
           · rw [if_pos h4] at h; simp at h
           · rw [if_neg h4] at h
             have h := (Except.ok.inj h).symm
             have h3 := Bool.eq_false_iff.2 h3
             have kk : ∀ i, fm[i]? = some 75 → 0 ≤ Dy (wd W (i + 1)) ∧ Dy (wd W (i + 1)) < 4 := by
              intro i hi
              have il := BK hi
              have hx : (W.drop 1)[i]? = some (wd W (i + 1)) := by
               rw [List.getElem?_drop, Nat.add_comm 1 i]
               unfold wd
               rw [List.getD_eq_getElem?_getD, List.getElem?_eq_getElem (by omega)]; rfl
              have := Nj h3 hi rfl hx
              exact ⟨of_decide_eq_true this, aP _⟩
             unfold IW FZ at hf
             unfold I9 at h
             by_cases c1 : wd W 0 = MQ
             · rw [if_pos c1] at h; subst h; exact .inr trivial
             · rw [if_neg c1] at h hf
               by_cases c2 : wd W 0 = FT
               · rw [if_pos c2] at h hf
                 have hf := Option.some.inj hf
                 subst h; right
                 exact kk 2 (by rw [← hf]; rfl)
               · rw [if_neg c2] at h hf
                 by_cases c3 : wd W 0 = GV
                 · rw [if_pos c3] at h hf
                   have hf := Option.some.inj hf
                   subst h; right
                   have h5 : (CS (wd W 2) 0 7 && CS (wd W 3) (-300) 300) = true := by
                    cases hb : (CS (wd W 2) 0 7 && CS (wd W 3) (-300) 300) with
                    | true => rfl
                    | false => exact absurd ⟨by rw [← hf], hb⟩ h4
                   rw [Bool.and_eq_true] at h5
                   have := TG h5.1
                   exact ⟨this.1, by have := this.2; omega⟩
                 · rw [if_neg c3] at h hf
                   by_cases c4 : wd W 0 = JW
                   · rw [if_pos c4] at h hf
                     have hf := Option.some.inj hf
                     subst h; right
                     exact kk 1 (by rw [← hf]; rfl)
                   · rw [if_neg c4] at h; subst h; exact .inl rfl
theorem Vh {x : List UInt8} {o : Ord} (h : Dz x = .ok o) : o = .undo ∨ o.ok := by
 unfold Dz at h
 by_cases c : 60 < x.length
 · rw [if_pos c] at h; simp at h
 · rw [if_neg c] at h
   by_cases c2 : DI x 32 = true
   · rw [if_pos c2] at h; exact kF h
   · rw [if_neg c2] at h; simp at h
abbrev Hist := List (List UInt8 × Ord)
def run (H : Hist) : Off := H.foldl (fun O x => O.apply x.2) ⟨[], []⟩
def runK (H : Hist) : List Nat := H.foldl (fun K x => Uc K x.2) []
theorem GK (H : Hist) (x : List UInt8 × Ord) : run (H ++ [x]) = (run H).apply x.2 := by unfold run; rw [List.foldl_append]; rfl
theorem aQ (H : Hist) (x : List UInt8 × Ord) : runK (H ++ [x]) = Uc (runK H) x.2 := by unfold runK; rw [List.foldl_append]; rfl
def HOk (H : Hist) : Prop := ∀ i x, H[i]? = some x → Fits (run (H.take i)) x.2 ∧ Dz x.1 = .ok x.2
theorem HOk.nil : HOk [] := by intro i x h; simp at h
theorem HOk.snoc {H : Hist} (h : HOk H) {x : List UInt8 × Ord} (f : Fits (run H) x.2) (r : Dz x.1 = .ok x.2) : HOk (H ++ [x]) := by
 intro i y hy
 by_cases e : i < H.length
 · rw [List.getElem?_append_left e] at hy
   rw [List.take_append_of_le_length (by omega)]
   exact h i y hy
 · have := BK hy
   simp at this
   obtain rfl : i = H.length := by omega
   simp at hy
   subst hy
   simp; exact ⟨f, r⟩
theorem HOk.take {H : Hist} (h : HOk H) (k : Nat) : HOk (H.take k) := by
 intro i x hx
 have hl := BK hx
 rw [List.length_take] at hl
 rw [List.getElem?_take_of_lt (by omega)] at hx
 rw [List.take_take, Nat.min_eq_left (by omega)]
 exact h i x hx
structure HInv (H : Hist) : Prop where
 inv : Ei (run H) (runK H)
 Nk : (run H).comps.length ≤ 8
 plen : (run H).parts.length ≤ 4 * H.length
theorem HOk.MS {H : Hist} (h : HOk H) : ∀ n, n ≤ H.length → HInv (H.take n)
 | 0, _ => by rw [List.take_zero]; exact ⟨Ei.nil, by decide, by decide⟩
 | n + 1, hn => by
  have i := h.MS n (by omega)
  obtain ⟨x, hx⟩ := Bv (show n < H.length by omega)
  obtain ⟨f, _⟩ := h n x hx
  have e : H.take (n + 1) = H.take n ++ [x] := by rw [List.take_add_one, hx]; rfl
  rw [e]
  refine ⟨?_, ?_, ?_⟩
  · rw [GK, aQ]; exact i.inv.apply f
  · rw [GK]; exact XR f i.Nk
  · rw [GK, List.length_append]
    have := XT f
    have h2 := i.plen
    have e1 : (H.take n).length = n := by rw [List.length_take]; omega
    rw [e1] at h2 ⊢
    show _ ≤ 4 * (n + 1)
    omega
theorem HOk.inv {H : Hist} (h : HOk H) : HInv H := by have := h.MS H.length (Nat.le_refl _); rwa [List.take_length] at this
def Ed (H : Hist) (x : List UInt8) : Int := match Dz x with
 | .error e => e
 | .ok .undo => if H.length = 0 then 2 else 0
 | .ok o => if (run H).check o ≠ 0 then (run H).check o else if H.length = 200 then 17 else 0
def doH (H : Hist) (x : List UInt8) : Hist := match Dz x with
 | .error _ => H
 | .ok .undo => H.take (H.length - 1)
 | .ok o => if (run H).check o ≠ 0 then H else if H.length = 200 then H else H ++ [(x, o)]
theorem doH_ok {H : Hist} (h : HOk H) (hl : H.length ≤ 200) (x : List UInt8) : HOk (doH H x) ∧ (doH H x).length ≤ 200 := by
 unfold doH
 split
 · exact ⟨h, hl⟩
 · exact ⟨h.take _, by simp; omega⟩
 · rename_i o hu hr
   by_cases c : (run H).check o ≠ 0
   · rw [if_pos c]; exact ⟨h, hl⟩
   · rw [if_neg c]
     by_cases c2 : H.length = 200
     · rw [if_pos c2]; exact ⟨h, hl⟩
     · rw [if_neg c2]
       refine ⟨h.snoc ⟨?_, Classical.not_not.1 c⟩ hr, by simp; omega⟩
       rcases Vh hr with rfl | k
       · exact (hu rfl).elim
       · exact k
end Go.Im
set_option maxRecDepth 100000
set_option maxHeartbeats 4000000
namespace Go.Im
theorem Fr.kok {s s' : AA} {F : Nat → Prop} (h : KOk s) (f : Fr s s' F) (hF : ∀ i, F i → 10 ≤ i) : KOk s' := by
 have := h.nx
 exact ⟨(f.get 0 (by omega) fun e => absurd (hF 0 e) (by omega)).trans h.k0, (f.get 9 (by omega) fun e => absurd (hF 9 e) (by omega)).trans h.k9, Nat.le_trans h.nx f.nx⟩
def LP (x : List UInt8 × Ord) (e : Nat) : Value := .iface (F8 x.2) (.pointer (some ⟨e, 0, none⟩))
def MV (H : Hist) (E : List Nat) : List Value := List.zipWith LP H E
structure CV (s : AA) (b : Nat) (H : Hist) (F : Nat → Prop) (tag : Nat → Nat) (o : Nat) (cb pb lb eb : Option Nat) (E : List Nat) (lv ev : Value) : Prop where
 hb : s.get b = some (.cells [.pointer (some ⟨o, 0, none⟩), lv, ev] 68 true)
 off : Ah s o cb pb (run H)
 la : BX s lb 9 1 (H.map fun x => strOf x.1) H.length lv
 ea : BX s eb 99 1 (MV H E) H.length ev
 el : E.length = H.length
 en : ∀ i x e, H[i]? = some x → E[i]? = some e → s.get e = some (.cells (MR (run (H.take i)) x.2) (TF x.2) true)
 tb : tag b = 0
 to_ : ∀ i, E5 o cb pb i → tag i = 1
 tl : ∀ i, lb = some i → tag i = 2
 te : ∀ i, eb = some i → tag i = 3
 tE : ∀ j i, E[j]? = some i → tag i = 4 + j
 fb : F b
 fo : ∀ i, E5 o cb pb i → F i
 fl : ∀ i, lb = some i → F i
 fe : ∀ i, eb = some i → F i
 fE : ∀ i, i ∈ E → F i
 lo : ∀ i, F i → 10 ≤ i
 hi : ∀ i, F i → i < s.nx
 ok : HOk H
 len : H.length ≤ 200
def CU (s : AA) (b : Nat) (H : Hist) (F : Nat → Prop) : Prop := ∃ tag o cb pb lb eb E lv ev, CV s b H F tag o cb pb lb eb E lv ev
def grow (F : Nat → Prop) (s s' : AA) (i : Nat) : Prop := (F i ∨ s.nx ≤ i) ∧ i < s'.nx
section
variable {s : AA} {b o : Nat} {H : Hist} {F : Nat → Prop} {tag : Nat → Nat} {cb pb lb eb : Option Nat} {E : List Nat} {lv ev : Value}
theorem CV.frame {s' : AA} (h : CV s b H F tag o cb pb lb eb E lv ev) (hn : s.nx ≤ s'.nx) (hg : ∀ i, F i → s'.get i = s.get i) : CV s' b H F tag o cb pb lb eb E lv ev :=
 { h with
  hb := (hg b h.fb).trans h.hb
  off := h.off.frame hn fun i hi => hg i (h.fo i hi)
  la := h.la.frame hn fun i e => hg i (h.fl i e)
  ea := h.ea.frame hn fun i e => hg i (h.fe i e)
  en := fun i x e h1 h2 => (hg e (h.fE e (List.mem_of_getElem? h2))).trans (h.en i x e h1 h2)
  hi := fun i hi => Nat.lt_of_lt_of_le (h.hi i hi) hn }
theorem CV.ext {s' : AA} (h : CV s b H F tag o cb pb lb eb E lv ev) (x : Ext s s') : CV s' b H F tag o cb pb lb eb E lv ev := h.frame x.nx fun i hi => x.get i (h.hi i hi)
theorem CV.mono {G : Nat → Prop} (h : CV s b H F tag o cb pb lb eb E lv ev) (hG : ∀ i, F i → G i) (lo : ∀ i, G i → 10 ≤ i) (hi : ∀ i, G i → i < s.nx) : CV s b H G tag o cb pb lb eb E lv ev :=
 { h with fb := hG _ h.fb, fo := fun i e => hG _ (h.fo i e), fl := fun i e => hG _ (h.fl i e), fe := fun i e => hG _ (h.fe i e), fE := fun i e => hG _ (h.fE i e), lo := lo, hi := hi }
theorem CU.frame {s' : AA} (h : CU s b H F) {G : Nat → Prop} (f : Fr s s' G) (hG : ∀ i, F i → ¬ G i) : CU s' b H F := by
 obtain ⟨tag, o, cb, pb, lb, eb, E, lv, ev, h⟩ := h
 exact ⟨tag, o, cb, pb, lb, eb, E, lv, ev, h.frame f.nx fun i hi => f.get i (h.hi i hi) (hG i hi)⟩
theorem CU.hi (h : CU s b H F) : ∀ i, F i → i < s.nx := by
 obtain ⟨tag, o, cb, pb, lb, eb, E, lv, ev, h⟩ := h
 exact h.hi
theorem CU.lo (h : CU s b H F) : ∀ i, F i → 10 ≤ i := by
 obtain ⟨tag, o, cb, pb, lb, eb, E, lv, ev, h⟩ := h
 exact h.lo
theorem CU.ok (h : CU s b H F) : HOk H := by
 obtain ⟨tag, o, cb, pb, lb, eb, E, lv, ev, h⟩ := h
 exact h.ok
theorem CU.len (h : CU s b H F) : H.length ≤ 200 := by
 obtain ⟨tag, o, cb, pb, lb, eb, E, lv, ev, h⟩ := h
 exact h.len
theorem CU.lt (h : CU s b H F) : b < s.nx := by
 obtain ⟨tag, o, cb, pb, lb, eb, E, lv, ev, h⟩ := h
 exact h.hi b h.fb
theorem Oh (h : ∀ i, F i → 10 ≤ i) (hk : 10 ≤ s.nx) {s' : AA} : ∀ i, grow F s s' i → 10 ≤ i := fun i hi => by
 rcases hi.1 with h1 | h1
 · exact h i h1
 · omega
theorem CV.Iu {s' : AA} (h : CV s b H F tag o cb pb lb eb E lv ev) (hk : 10 ≤ s.nx) (x : Ext s s') : CV s' b H (grow F s s') tag o cb pb lb eb E lv ev :=
 (h.ext x).mono (fun i hi => ⟨.inl hi, Nat.lt_of_lt_of_le (h.hi i hi) x.nx⟩) (Oh h.lo hk) fun i hi => hi.2
theorem k14 (n : Nat) (hn : 1 ≤ n) (s : AA) (hk : KOk s) : ∃ s', AU AL Aj n (.fn 14) [] s = .ok (.pointer (some ⟨s.nx + 1, 0, none⟩), s') ∧ CU s' (s.nx + 1) [] (grow (fun _ => False) s s') ∧ Ext s s' := by
 obtain ⟨m, rfl, _⟩ := Ac hn
 obtain ⟨s1, h1⟩ : ∃ s1, s1 = s.new (.cells [.slice none 0 0, .slice none 0 0] 95 true) := ⟨_, rfl⟩
 obtain ⟨s2, h2⟩ : ∃ s2, s2 = s1.new (.cells [.pointer (some ⟨s.nx, 0, none⟩), .slice none 0 0, .slice none 0 0] 68 true) := ⟨_, rfl⟩
 have n1 : s1.nx = s.nx + 1 := by rw [h1]; rfl
 have n2 : s2.nx = s.nx + 2 := by rw [h2]; show s1.nx + 1 = _; rw [n1]
 have x1 : Ext s s1 := by rw [h1]; exact (Ext.refl s).new _
 have x2 : Ext s1 s2 := by rw [h2]; exact (Ext.refl s1).new _
 have g1 : s1.get s.nx = some (.cells [.slice none 0 0, .slice none 0 0] 95 true) := by rw [h1, AA.Ak, if_pos rfl]
 have g2 : s2.get (s.nx + 1) = some (.cells [.pointer (some ⟨s.nx, 0, none⟩), .slice none 0 0, .slice none 0 0] 68 true) := by rw [h2, AA.Ak, ← n1, if_pos rfl]
 have g2' : s2.get s.nx = some (.cells [.slice none 0 0, .slice none 0 0] 95 true) := (x2.get _ (by omega)).trans g1
 refine ⟨s2, ?_, ⟨fun i => if i = s.nx + 1 then 0 else 1, s.nx, none, none, none, none, [], .slice none 0 0, .slice none 0 0, ?_⟩, x1.trans x2⟩
 · rw [Ap 14 c14 rfl, f14_eq]
   have e1 : ob (fill [.slice none 0 0, .slice none 0 0] []) (fun c => some (Value.agg ⟨c⟩)) = some (.agg ⟨[.slice none 0 0, .slice none 0 0]⟩) := rfl
   have e2 : cellsOf (.agg ⟨[.slice none 0 0, .slice none 0 0]⟩) = [.slice none 0 0, .slice none 0 0] := rfl
   have e3 : ob (fill [.pointer none, .slice none 0 0, .slice none 0 0] [(0, 1, (ptrTo s.nx))]) (fun c => some (Value.agg ⟨c⟩)) = some (.agg ⟨[.pointer (some ⟨s.nx, 0, none⟩), .slice none 0 0, .slice none 0 0]⟩) := rfl
   have e4 : cellsOf (.agg ⟨[.pointer (some ⟨s.nx, 0, none⟩), .slice none 0 0, .slice none 0 0]⟩) = [.pointer (some ⟨s.nx, 0, none⟩), .slice none 0 0, .slice none 0 0] := rfl
   have e5 : ptrTo s1.nx = .pointer (some ⟨s.nx + 1, 0, none⟩) := by rw [n1]; rfl
   simp only [AY, Aq, bind_ok, e1, e2, e3, e4, ← h1, ← h2, e5]
 · refine ⟨g2, ⟨by omega, ⟨_, _, g2', ⟨rfl, rfl, rfl⟩, ⟨rfl, rfl, rfl⟩⟩, (fun c hc => by cases hc), by simp, by simp, by simp⟩, ⟨rfl, rfl, rfl⟩, ⟨rfl, rfl, rfl⟩, rfl, by simp, if_pos rfl, ?_, by simp, by simp, by simp, ?_, ?_, by simp, by simp, by simp, ?_, fun i hi => hi.2, HOk.nil, by simp⟩
   · intro i hi
     rcases hi with rfl | hi | hi
     · show (if s.nx = s.nx + 1 then 0 else 1) = 1
       rw [if_neg (by omega)]
     · cases hi
     · cases hi
   · exact ⟨.inr (by omega), by omega⟩
   · intro i hi
     rcases hi with rfl | hi | hi
     · exact ⟨.inr (Nat.le_refl _), by omega⟩
     · cases hi
     · cases hi
   · have := hk.nx
     exact Oh (fun i hi => hi.elim) this
theorem k51 (n : Nat) (hn : 1 ≤ n) (h : CV s b H F tag o cb pb lb eb E lv ev) : AU AL Aj n (.fn 51) [.pointer (some ⟨b, 0, none⟩)] s = .ok (.bool false, s) := by
 obtain ⟨m, rfl, _⟩ := Ac hn
 rw [Ap 51 c51 rfl, f51_eq]
 have r0 : s.rd1 b 0 = some (.pointer (some ⟨o, 0, none⟩)) := by rw [Ai h.hb]; rfl
 simp [r0]
end
end Go.Im
set_option maxRecDepth 100000
set_option maxHeartbeats 4000000
namespace Go.Im
theorem nY {s s' : AA} {v : Value} (h : ∀ a n c, v = .slice (some a) n c → s'.get a.block = s.get a.block) (el n : Nat) (l hh m : Option Value) : rSl s' el n l hh m v = rSl s el n l hh m v := by
 cases v with
 | slice a len cap =>
  cases a with
  | none => rfl
  | some a =>
   have e := h a len cap rfl
   show cond (Nat.blt cap UNK) (Ho a n len cap l hh m) (cond (Nat.beq cap UNE) none (RH a el n len l hh m (s'.get a.block))) = cond (Nat.blt cap UNK) (Ho a n len cap l hh m) (cond (Nat.beq cap UNE) none (RH a el n len l hh m (s.get a.block)))
   rw [e]
 | _ => rfl
theorem BX.there {s s' : AA} {base : Option Nat} {el w len : Nat} {cs : List Value} {v : Value} (h : BX s base el w cs len v) (hn : s.nx ≤ s'.nx) : Iz s' (some v) = true := by
 cases base with
 | none => obtain ⟨rfl, _⟩ := h; rfl
 | some b => obtain ⟨rfl, h1, _⟩ := h; show Nat.blt b s'.nx = true; exact Bq.2 (by omega)
theorem BX.block {s : AA} {base : Option Nat} {el w len : Nat} {cs : List Value} {v : Value} (h : BX s base el w cs len v) {a : Addr} {n c : Nat} (e : v = .slice (some a) n c) : base = some a.block := by
 cases base with
 | none => obtain ⟨rfl, _⟩ := h; cases e
 | some b => obtain ⟨rfl, _⟩ := h; injection e with e; injection e with e; rw [← e]
theorem Yj {s : AA} {x v : Value} {rd : Option Value} (h1 : Iz s (some x) = true) (h2 : rd = some v) (h3 : veq v v = true) : CW s (some x) rd v = true := by
 unfold CW; rw [h1, h2]; exact h3
theorem invRev (ord : Ord) (e : Nat) : BA AL (.iface (F8 ord) (.pointer (some ⟨e, 0, none⟩))) = some (.iface (F8 ord) (.pointer (some ⟨e, 0, none⟩))) := rfl
section
variable {s : AA} {b o : Nat} {H : Hist} {F : Nat → Prop} {tag : Nat → Nat} {cb pb lb eb : Option Nat} {E : List Nat} {lv ev : Value}
theorem CV.Ue (h : CV s b H F tag o cb pb lb eb E lv ev) {i : Nat} (hi : tag i ≠ 0) : i ≠ b := fun e => hi (by rw [e]; exact h.tb)
theorem CV.E_off (h : CV s b H F tag o cb pb lb eb E lv ev) {j e : Nat} (he : E[j]? = some e) : ¬ E5 o cb pb e := fun hh => by have := h.to_ e hh; have := h.tE j e he; omega
theorem nZ (n : Nat) (hn : 1 ≤ n) (h : CV s b H F tag o cb pb lb eb E lv ev) (h0 : H.length = 0) : AU AL Aj n (.fn 53) [.pointer (some ⟨b, 0, none⟩)] s = .ok (.int .i64 2, s) := by
 obtain ⟨m, rfl, _⟩ := Ac hn
 rw [Ap 53 c53 rfl, jX]
 have r1 : s.rd1 b 1 = some lv := by rw [Ai h.hb]; rfl
 have i1 : Az .i64 ((H.length : Int) - 1) = -1 := by rw [h0]; rfl
 simp [r1, h.la.len_eq, i1]
theorem k53 (n : Nat) (hn : 60 ≤ n) (h : CV s b H F tag o cb pb lb eb E lv ev) (h0 : 0 < H.length) :
 ∃ s', AU AL Aj n (.fn 53) [.pointer (some ⟨b, 0, none⟩)] s = .ok (.int .i64 0, s') ∧ CU s' b (H.take (H.length - 1)) F ∧ Fr s s' F := by
 obtain ⟨m, rfl, hm⟩ := Ac (show 1 ≤ n by omega)
 obtain ⟨l, hl⟩ : ∃ l, l = H.length - 1 := ⟨_, rfl⟩
 have hlen := h.len
 obtain ⟨x, hx⟩ := Bv (show l < H.length by omega)
 obtain ⟨e, he⟩ := Bv (show l < E.length by rw [h.el]; omega)
 have hE : H = H.take l ++ [x] := by
  have : H.take (l + 1) = H.take l ++ [x] := by rw [List.take_add_one, hx]; rfl
  rw [← this, List.take_of_length_le (by omega)]
 have hI := h.ok.MS l (by omega)
 obtain ⟨f, _⟩ := h.ok l x hx
 have hoff : Ah s o cb pb ((run (H.take l)).apply x.2) := by rw [← GK, ← hE]; exact h.off
 have hel : e < s.nx := h.hi e (h.fE e (List.mem_of_getElem? he))
 have hpl := hI.plen
 have htl : (H.take l).length = l := by rw [List.length_take]; omega
 rw [htl] at hpl
 obtain ⟨s1, d1, p1, f1⟩ := nX m hI.inv x.2 f hoff (by have := hI.Nk; omega) (by have := hI.Nk; omega) (by omega) e hel (h.en l x e hx he) (h.E_off he)
 have f1F : Fr s s1 F := f1.mono h.fo
 have g1 : ∀ i, i < s.nx → tag i ≠ 1 → s1.get i = s.get i := fun i hi ht => f1.get i hi fun hh => ht (h.to_ i hh)
 have hb1 : s1.get b = some (.cells [.pointer (some ⟨o, 0, none⟩), lv, ev] 68 true) := (g1 b (h.hi b h.fb) (by rw [h.tb]; decide)).trans h.hb
 have la1 := h.la.frame f1.nx fun i e => g1 i (h.la.lt e) (by rw [h.tl i e]; decide)
 have ea1 := h.ea.frame f1.nx fun i e => g1 i (h.ea.lt e) (by rw [h.te i e]; decide)
 obtain ⟨lv', el', lat⟩ := la1.trunc (by decide) (show l ≤ H.length by omega) .i64
 obtain ⟨ev', ee', eat⟩ := ea1.trunc (by decide) (show l ≤ H.length by omega) .i64
 have w2 := MP (s := s1) (b := b) hb1 (o := 1) (v := lv') lat.simple (by simp)
 obtain ⟨s2, hs2⟩ : ∃ s2, s2 = s1.put b (.cells ([.pointer (some ⟨o, 0, none⟩), lv, ev].set 1 lv') 68 true) := ⟨_, rfl⟩
 rw [← hs2] at w2
 have hb2 : s2.get b = some (.cells [.pointer (some ⟨o, 0, none⟩), lv', ev] 68 true) := by rw [hs2, AA.get_put, if_pos rfl]; rfl
 have g2 : ∀ i, i ≠ b → s2.get i = s1.get i := fun i hi => by rw [hs2, AA.get_put, if_neg hi]
 have n2 : s2.nx = s1.nx := by rw [hs2]; rfl
 have w3 := MP (s := s2) (b := b) hb2 (o := 2) (v := ev') eat.simple (by simp)
 obtain ⟨s3, hs3⟩ : ∃ s3, s3 = s2.put b (.cells ([.pointer (some ⟨o, 0, none⟩), lv', ev].set 2 ev') 68 true) := ⟨_, rfl⟩
 rw [← hs3] at w3
 have hb3 : s3.get b = some (.cells [.pointer (some ⟨o, 0, none⟩), lv', ev'] 68 true) := by rw [hs3, AA.get_put, if_pos rfl]; rfl
 have g3 : ∀ i, i ≠ b → s3.get i = s1.get i := fun i hi => by rw [hs3, AA.get_put, if_neg hi]; exact g2 i hi
 have n3 : s3.nx = s1.nx := by rw [hs3]; exact n2
 have nb1 : Nat.ble s.nx s1.nx = true := Ae.2 f1.nx
 have nb2 : Nat.ble s1.nx s2.nx = true := Ae.2 (by omega)
 have nb3 : Nat.ble s2.nx s3.nx = true := Ae.2 (by omega)
 refine ⟨s3, ?_, ⟨tag, o, cb, pb, lb, eb, E.take l, lv', ev', ?_⟩, ?_⟩
 · rw [Ap 53 c53 rfl, jX]
   have r1 : s.rd1 b 1 = some lv := by rw [Ai h.hb]; rfl
   have r2 : s.rd1 b 2 = some ev := by rw [Ai h.hb]; rfl
   have r0 : s.rd1 b 0 = some (.pointer (some ⟨o, 0, none⟩)) := by rw [Ai h.hb]; rfl
   have r11 : s1.rd1 b 1 = some lv := by rw [Ai hb1]; rfl
   have r12 : s1.rd1 b 2 = some ev := by rw [Ai hb1]; rfl
   have i1 : Az .i64 ((H.length : Int) - 1) = (l : Int) := by rw [wrap64 (by omega)]; omega
   have nl : ¬ (l : Int) < 0 := by omega
   obtain ⟨eb', heb, ia⟩ := h.ea.iad l (by omega) .i64
   have hz : (MV H E)[l]? = some (LP x e) := by unfold MV; rw [List.getElem?_zipWith, hx, he]
   obtain ⟨eb'', heb', rg⟩ := h.ea.get hz
   obtain rfl : eb' = eb'' := Option.some.inj (heb.symm.trans heb')
   rw [Nat.mul_one] at ia
   have c1 : CW s1 (some ev) (some ev') ev' = true := Yj (ea1.there (Nat.le_refl _)) rfl eat.veq
   have c2 : CW s2 (some ev) (some ev') ev' = true := Yj (ea1.there (by omega)) rfl eat.veq
   have ee2 : rSl s2 99 1 none (some (.int .i64 (l : Int))) none ev = some ev' := by
    rw [nY (s := s1) fun a n c hv => g2 _ (h.Ue (by rw [h.te _ (ea1.block hv)]; decide))]; exact ee'
   unfold LP at rg
   simp [r1, h.la.len_eq, i1, nl, Zm B53 rfl, r2, ia, rg, r0, invRev, d1, nb1, r11, el', r12, ee', w2, w3, nb2, nb3, c1, c2, ee2]
 · have hml : (H.take l).length = l := htl
   refine ⟨hb3, ?_, ?_, ?_, by rw [← hl, List.length_take, List.length_take, h.el], ?_, h.tb, h.to_, h.tl, h.te, ?_, h.fb, h.fo, h.fl, h.fe, fun i hi => h.fE i (List.mem_of_mem_take hi), h.lo, fun i hi => Nat.lt_of_lt_of_le (h.hi i hi) (by rw [n3]; exact f1.nx), ?_, by rw [← hl, hml]; omega⟩
   · rw [← hl]
     exact p1.frame (by omega) fun i hi => g3 i (h.Ue (by rw [h.to_ i hi]; decide))
   · have := lat.frame (s' := s3) (by omega) fun i hi => g3 i (h.Ue (by rw [h.tl i hi]; decide))
     rw [← hl, hml, List.map_take]
     rw [Nat.mul_one] at this
     exact this
   · have := eat.frame (s' := s3) (by omega) fun i hi => g3 i (h.Ue (by rw [h.te i hi]; decide))
     rw [← hl, hml]
     rw [Nat.mul_one] at this
     unfold MV at this ⊢
     rw [List.take_zipWith] at this
     exact this
   · rw [← hl]
     intro i y e' h1 h2
     have il := BK h1
     rw [hml] at il
     rw [List.getElem?_take_of_lt il] at h1 h2
     rw [List.take_take, Nat.min_eq_left (by omega), g3 e' (h.Ue (by rw [h.tE i e' h2]; omega)), g1 e' (h.hi _ (h.fE _ (List.mem_of_getElem? h2))) (by rw [h.tE i e' h2]; omega)]
     exact h.en i y e' h1 h2
   · intro j i hj
     have il := BK hj
     rw [List.length_take] at il
     rw [List.getElem?_take_of_lt (by omega)] at hj
     exact h.tE j i hj
   · rw [← hl]; exact h.ok.take l
 · refine ⟨by rw [n3]; exact f1.nx, fun i hi hF => ?_⟩
   rw [g3 i (fun e => hF (by rw [e]; exact h.fb))]
   exact f1F.get i hi hF
end
end Go.Im
set_option maxRecDepth 100000
set_option maxHeartbeats 4000000
namespace Go.Im
theorem invFn (ord : Ord) (e : Nat) (m : String) : BA AL (.func (.method m) ⟨[.iface (F8 ord) (.pointer (some ⟨e, 0, none⟩))]⟩ ⟨[]⟩) = ob (AL.find (F8 ord) m) fun _ => some (.func (.method m) ⟨[.iface (F8 ord) (.pointer (some ⟨e, 0, none⟩))]⟩ ⟨[]⟩) := rfl
theorem Vj {o : Ord} {ty el : Nat} {cs : List Value} (h : TB o = some (ty, cs, el)) : ty = F8 o ∧ el = TF o ∧ ∃ f g, AL.find (F8 o) "agonic/logbook.check" = some f ∧ AL.find (F8 o) "agonic/logbook.apply" = some g := by
 cases o with
 | undo => cases h
 | new a => injection h with h; injection h with h1 h; injection h with h2 h3; exact ⟨h1.symm, h3.symm, 192, 191, rfl, rfl⟩
 | swap a b k => injection h with h; injection h with h1 h; injection h with h2 h3; exact ⟨h1.symm, h3.symm, 195, 194, rfl, rfl⟩
 | card a k d => injection h with h; injection h with h1 h; injection h with h2 h3; exact ⟨h1.symm, h3.symm, 186, 185, rfl, rfl⟩
 | mend a k => injection h with h; injection h with h1 h; injection h with h2 h3; exact ⟨h1.symm, h3.symm, 188, 57, rfl, rfl⟩
section
variable {s : AA} {b o : Nat} {H : Hist} {F : Nat → Prop} {tag : Nat → Nat} {cb pb lb eb : Option Nat} {E : List Nat} {lv ev : Value}
theorem k16_J5 (n N : Nat) (hn : 60 ≤ n) (h : CV s b H F tag o cb pb lb eb E lv ev) (x : List UInt8) (ord : Ord) {ty el : Nat} {cs : List Value} (ho : TB ord = some (ty, cs, el)) (f : Fits (run H) ord) (hr : Dz x = .ok ord) (hlen : H.length < 200)
 (e : Nat) (h10 : 10 ≤ e) (hl : e < s.nx) (heF : ¬ F e) (he : s.get e = some (.cells cs el true)) :
 ∃ s', UD B16 (AU AL Aj n) N (.pointer (some ⟨b, 0, none⟩)) (strOf x) (.iface ty (.pointer (some ⟨e, 0, none⟩))) s = .ok (.int .i64 0, s') ∧ CU s' b (H ++ [(x, ord)]) (fun i => (F i ∨ i = e ∨ s.nx ≤ i) ∧ i < s'.nx) ∧ Fr s s' (fun i => F i ∨ i = e) := by
 obtain ⟨rfl, rfl, fc, fa, hfc, hfa⟩ := Vj ho
 have hI := h.ok.inv
 have hpl := hI.plen
 have hcl := hI.Nk
 have hne : ¬ E5 o cb pb e := fun hh => heF (h.fo e hh)
 have s10 : 10 ≤ s.nx := by omega
 obtain ⟨s3, d3, ⟨cb3, pb3, p3, u3⟩, f3, g3e⟩ := kApply n h.off hI.inv (by omega) (by omega) (by omega) ord f cs e hl he (.inr ho) hne
 have g3 : ∀ i, F i → tag i ≠ 1 → s3.get i = s.get i := fun i hi ht => f3.get i (h.hi i hi) fun hh => by
  rcases hh with hh | rfl
  · exact ht (h.to_ i hh)
  · exact heF hi
 have hb3 : s3.get b = some (.cells [.pointer (some ⟨o, 0, none⟩), lv, ev] 68 true) := (g3 b h.fb (by rw [h.tb]; decide)).trans h.hb
 have la3 := h.la.frame f3.nx fun i e => g3 i (h.fl i e) (by rw [h.tl i e]; decide)
 have ea3 := h.ea.frame f3.nx fun i e => g3 i (h.fe i e) (by rw [h.te i e]; decide)
 obtain ⟨s4, hs4⟩ : ∃ s4, s4 = s3.new (.cells [strOf x] 9 true) := ⟨_, rfl⟩
 have n4 : s4.nx = s3.nx + 1 := by rw [hs4]; rfl
 have x4 : Ext s3 s4 := by rw [hs4]; exact (Ext.refl s3).new _
 have la4 := la3.frame x4.nx fun i e => x4.get i (la3.lt e)
 have src4 : DL s4 1 (Bo 1 1 s3.nx) = some [strOf x] := by
  show s4.rd s3.nx 0 (Nat.mul 1 1) = _
  rw [ED (by rw [hs4, AA.Ak, if_pos rfl]) (by simp)]; rfl
 obtain ⟨lv5, s5, lb5, w5, la5, hlb5, n5, g5⟩ := la4.push (by decide) (by_ := 16) (by omega) (by show H.length + 1 < 9223372036854775808; omega) (news := [strOf x]) rfl rfl src4
 have hlbF : ∀ i, F i → tag i ≠ 2 → lb ≠ some i := fun i _ ht e => ht (h.tl i e)
 have g5F : ∀ i, F i → tag i ≠ 1 → tag i ≠ 2 → s5.get i = s.get i := fun i hi h1 h2 => by
  have := h.hi i hi
  have := f3.nx
  rw [g5 i (by omega) (hlbF i hi h2), x4.get i (by omega), g3 i hi h1]
 have hb5 : s5.get b = some (.cells [.pointer (some ⟨o, 0, none⟩), lv, ev] 68 true) := (g5F b h.fb (by rw [h.tb]; decide) (by rw [h.tb]; decide)).trans h.hb
 have hb4 : s4.get b = some (.cells [.pointer (some ⟨o, 0, none⟩), lv, ev] 68 true) := by have := h.hi b h.fb; have := f3.nx; rw [x4.get b (by omega)]; exact hb3
 have ea5 := h.ea.frame (s' := s5) (by have := f3.nx; omega) fun i e => g5F i (h.fe i e) (by rw [h.te i e]; decide) (by rw [h.te i e]; decide)
 obtain ⟨s6, hs6⟩ : ∃ s6, s6 = s5.new (.cells [LP (x, ord) e] 99 true) := ⟨_, rfl⟩
 have n6 : s6.nx = s5.nx + 1 := by rw [hs6]; rfl
 have x6 : Ext s5 s6 := by rw [hs6]; exact (Ext.refl s5).new _
 have ea6 := ea5.frame x6.nx fun i e => x6.get i (ea5.lt e)
 have src6 : DL s6 1 (Bo 1 1 s5.nx) = some [LP (x, ord) e] := by
  show s6.rd s5.nx 0 (Nat.mul 1 1) = _
  rw [ED (by rw [hs6, AA.Ak, if_pos rfl]) (by simp)]; rfl
 obtain ⟨ev7, s7, eb7, w7, ea7, heb7, n7, g7⟩ := ea6.push (by decide) (by_ := 16) (by omega) (by show H.length + 1 < 9223372036854775808; omega) (news := [LP (x, ord) e]) rfl rfl src6
 have nx3 := f3.nx
 have g7F : ∀ i, F i → tag i ≠ 1 → tag i ≠ 2 → tag i ≠ 3 → s7.get i = s.get i := fun i hi h1 h2 h3 => by
  have := h.hi i hi
  rw [g7 i (by omega) (fun e => h3 (h.te i e)), x6.get i (by omega), g5F i hi h1 h2]
 have hb7 : s7.get b = some (.cells [.pointer (some ⟨o, 0, none⟩), lv, ev] 68 true) := (g7F b h.fb (by rw [h.tb]; decide) (by rw [h.tb]; decide) (by rw [h.tb]; decide)).trans h.hb
 have w8 := MP (s := s7) (b := b) hb7 (o := 1) (v := lv5) la5.simple (by simp)
 obtain ⟨s8, hs8⟩ : ∃ s8, s8 = s7.put b (.cells ([.pointer (some ⟨o, 0, none⟩), lv, ev].set 1 lv5) 68 true) := ⟨_, rfl⟩
 rw [← hs8] at w8
 have hb8 : s8.get b = some (.cells [.pointer (some ⟨o, 0, none⟩), lv5, ev] 68 true) := by rw [hs8, AA.get_put, if_pos rfl]; rfl
 have n8 : s8.nx = s7.nx := by rw [hs8]; rfl
 have w9 := MP (s := s8) (b := b) hb8 (o := 2) (v := ev7) ea7.simple (by simp)
 obtain ⟨s9, hs9⟩ : ∃ s9, s9 = s8.put b (.cells ([.pointer (some ⟨o, 0, none⟩), lv5, ev].set 2 ev7) 68 true) := ⟨_, rfl⟩
 rw [← hs9] at w9
 have hb9 : s9.get b = some (.cells [.pointer (some ⟨o, 0, none⟩), lv5, ev7] 68 true) := by rw [hs9, AA.get_put, if_pos rfl]; rfl
 have g9 : ∀ i, i ≠ b → s9.get i = s7.get i := fun i hi => by rw [hs9, AA.get_put, if_neg hi, hs8, AA.get_put, if_neg hi]
 have n9 : s9.nx = s7.nx := by rw [hs9]; exact n8
 have g79 : ∀ i, i < s3.nx → i ≠ b → lb ≠ some i → eb ≠ some i → s9.get i = s3.get i := fun i hi h1 h2 h3 => by
  rw [g9 i h1, g7 i (by omega) h3, x6.get i (by omega), g5 i (by omega) h2, x4.get i (by omega)]
 have hbs := h.hi b h.fb
 have lbs : ∀ i, lb = some i → i < s.nx := fun i e => h.hi i (h.fl i e)
 have ebs : ∀ i, eb = some i → i < s.nx := fun i e => h.hi i (h.fe i e)
 have off9 : Ah s9 o cb3 pb3 ((run H).apply ord) := p3.frame (by omega) fun i hi => by
  have hi3 := p3.sub hi
  rcases u3 i hi with h1 | h1
  · have ht := h.to_ i h1
    exact g79 i hi3 (h.Ue (by rw [ht]; decide)) (fun e => by have := h.tl i e; omega) (fun e => by have := h.te i e; omega)
  · exact g79 i hi3 (by omega) (fun e => by have := lbs i e; omega) (fun e => by have := ebs i e; omega)
 refine ⟨s9, ?_, ⟨fun i => if i = e then 4 + H.length else if i < s.nx then tag i else if lb5 = some i then 2 else if eb7 = some i then 3 else 1, o, cb3, pb3, lb5, eb7, E ++ [e], lv5, ev7, ?_⟩, ?_⟩
 · rw [show strOf x = .string (ofL x) from rfl, ZP B16 rfl]
   have r0 : s.rd1 b 0 = some (.pointer (some ⟨o, 0, none⟩)) := by rw [Ai h.hb]; rfl
   have r31 : s3.rd1 b 1 = some lv := by rw [Ai hb3]; rfl
   have r52 : s5.rd1 b 2 = some ev := by rw [Ai hb5]; rfl
   have r42 : s4.rd1 b 2 = some ev := by rw [Ai hb4]; rfl
   have e4 : ob (fill (zeros [.string ⟨#[]⟩] 1) [(0, 1, (.string (ofL x)))]) (fun c => some (CX.cells c 9 true, Bo 1 1)) = some (.cells [strOf x] 9 true, Bo 1 1) := rfl
   have e6 : ob (fill (zeros [.nilIface] 1) [(0, 1, (.iface (F8 ord) (.pointer (some ⟨e, 0, none⟩))))]) (fun c => some (CX.cells c 99 true, Bo 1 1)) = some (.cells [LP (x, ord) e] 99 true, Bo 1 1) := rfl
   have nb3 : Nat.ble s.nx s3.nx = true := Ae.2 (by omega)
   have nb4 : Nat.ble s3.nx s4.nx = true := Ae.2 (by omega)
   have nb5 : Nat.ble s4.nx s5.nx = true := Ae.2 (by omega)
   have nb6 : Nat.ble s5.nx s6.nx = true := Ae.2 (by omega)
   have nb7 : Nat.ble s6.nx s7.nx = true := Ae.2 (by omega)
   have nb8 : Nat.ble s7.nx s8.nx = true := Ae.2 (by omega)
   have nb9 : Nat.ble s8.nx s9.nx = true := Ae.2 (by omega)
   rw [n4] at nb4 nb5
   rw [n6] at nb6 nb7
   have ck4 : CW s4 (some (.pointer (some ⟨b, 2, none⟩))) (some ev) ev = true := Cm (by omega) h.ea.veq
   have ck5 : CW s5 (some (.pointer (some ⟨b, 2, none⟩))) (some ev) ev = true := Cm (by omega) h.ea.veq
   have hm : ∀ m g, AL.find (F8 ord) m = some g → BA AL (.func (.method m) #[.iface (F8 ord) (.pointer (some ⟨e, 0, none⟩))] #[]) = some (.func (.method m) #[.iface (F8 ord) (.pointer (some ⟨e, 0, none⟩))] #[]) := fun m g hg => by
    have := invFn ord e m
    rw [hg] at this
    exact this
   have hm2 := hm _ _ hfa
   simp [r0, hm2, d3, nb3, r31, e4, ← hs4, nb4, w5, nb5, r52, r42, e6, ← hs6, nb6, w7, nb7, w8, nb8, w9, nb9, ck4, ck5]
 · have hEl : ∀ j i, E[j]? = some i → F i ∧ i < s.nx ∧ i ≠ e := fun j i hj => by
    have hF := h.fE i (List.mem_of_getElem? hj)
    exact ⟨hF, h.hi i hF, fun ee => heF (by rw [← ee]; exact hF)⟩
   have lb5c : ∀ i, lb5 = some i → lb = some i ∨ i = s4.nx := fun i hi => by
    rcases hlb5 with e1 | e1
    · exact .inl (by rw [← e1]; exact hi)
    · exact .inr (by rw [e1] at hi; exact (Option.some.inj hi).symm)
   have eb7c : ∀ i, eb7 = some i → eb = some i ∨ i = s6.nx := fun i hi => by
    rcases heb7 with e1 | e1
    · exact .inl (by rw [← e1]; exact hi)
    · exact .inr (by rw [e1] at hi; exact (Option.some.inj hi).symm)
   refine ⟨hb9, by rw [GK]; exact off9, ?_, ?_, by simp [h.el], ?_, ?_, ?_, ?_, ?_, ?_, ?_, ?_, ?_, ?_, ?_, ?_, fun i hi => hi.2, h.ok.snoc f hr, by simp; omega⟩
   · have hA := la5.frame (s' := s9) (by omega) fun i hi => by
      have hib : i ≠ b := by
       rcases lb5c i hi with h1 | h1
       · exact h.Ue (by rw [h.tl i h1]; decide)
       · omega
      have hie : eb ≠ some i := fun e' => by
       rcases lb5c i hi with h1 | h1
       · have := h.tl i h1; have := h.te i e'; omega
       · have := ebs i e'; omega
      rw [g9 i hib, g7 i (by have := la5.lt hi; omega) hie, x6.get i (la5.lt hi)]
     rw [List.map_append, List.length_append]
     exact hA
   · have hA := ea7.frame (s' := s9) (by omega) fun i hi => g9 i (by
      rcases eb7c i hi with h1 | h1
      · exact h.Ue (by rw [h.te i h1]; decide)
      · omega)
     rw [List.length_append]
     unfold MV at hA ⊢
     rw [List.zipWith_append h.el.symm]
     exact hA
   · intro i y e' h1 h2
     by_cases ei : i < H.length
     · rw [List.getElem?_append_left ei] at h1
       rw [List.getElem?_append_left (by rw [h.el]; exact ei)] at h2
       obtain ⟨q1, q2, q3⟩ := hEl i e' h2
       have ht := h.tE i e' h2
       rw [List.take_append_of_le_length (by omega), g79 e' (by omega) (h.Ue (by omega)) (fun e => by have := h.tl _ e; omega) (fun e => by have := h.te _ e; omega), g3 e' q1 (by omega)]
       exact h.en i y e' h1 h2
     · have := BK h1
       simp at this
       obtain rfl : i = H.length := by omega
       rw [List.getElem?_append_right (by omega)] at h1
       rw [List.getElem?_append_right (by rw [h.el]; omega)] at h2
       simp [h.el] at h1 h2
       subst h1 h2
       rw [g79 e (by omega) (fun ee => heF (by rw [ee]; exact h.fb)) (fun ee => heF (h.fl e ee)) (fun ee => heF (h.fe e ee)), g3e, List.take_append_of_le_length (Nat.le_refl _), List.take_length]
   · show (if b = e then _ else if b < s.nx then _ else _) = 0
     rw [if_neg (fun ee => heF (by rw [← ee]; exact h.fb)), if_pos hbs]; exact h.tb
   · intro i hi
     have hi3 := p3.sub hi
     show (if i = e then _ else if i < s.nx then _ else _) = 1
     rcases u3 i hi with h1 | h1
     · rw [if_neg (fun ee => hne (by rw [← ee]; exact h1)), if_pos (h.hi i (h.fo i h1))]; exact h.to_ i h1
     · rw [if_neg (by omega), if_neg (by omega), if_neg, if_neg]
       · intro e'; rcases eb7c i e' with h2 | h2
         · have := ebs i h2; omega
         · omega
       · intro e'; rcases lb5c i e' with h2 | h2
         · have := lbs i h2; omega
         · omega
   · intro i hi
     show (if i = e then _ else if i < s.nx then _ else if lb5 = some i then 2 else _) = 2
     rcases lb5c i hi with h1 | h1
     · rw [if_neg (fun ee => heF (by rw [← ee]; exact h.fl i h1)), if_pos (lbs i h1)]; exact h.tl i h1
     · rw [if_neg (by omega), if_neg (by omega), if_pos hi]
   · intro i hi
     show (if i = e then _ else if i < s.nx then _ else if lb5 = some i then 2 else if eb7 = some i then 3 else _) = 3
     rcases eb7c i hi with h1 | h1
     · rw [if_neg (fun ee => heF (by rw [← ee]; exact h.fe i h1)), if_pos (ebs i h1)]; exact h.te i h1
     · rw [if_neg (by omega), if_neg (by omega), if_neg, if_pos hi]
       intro e'; rcases lb5c i e' with h2 | h2
       · have := lbs i h2; omega
       · omega
   · intro j i hj
     show (if i = e then _ else if i < s.nx then _ else _) = 4 + j
     by_cases ej : j < E.length
     · rw [List.getElem?_append_left ej] at hj
       obtain ⟨q1, q2, q3⟩ := hEl j i hj
       rw [if_neg q3, if_pos q2]; exact h.tE j i hj
     · have := BK hj
       simp at this
       obtain rfl : j = E.length := by omega
       simp at hj
       rw [if_pos hj.symm, h.el]
   · exact ⟨.inl h.fb, by omega⟩
   · intro i hi
     have := p3.sub hi
     rcases u3 i hi with h1 | h1
     · exact ⟨.inl (h.fo i h1), by omega⟩
     · exact ⟨.inr (.inr h1), by omega⟩
   · intro i hi
     have := la5.lt hi
     rcases lb5c i hi with h1 | h1
     · exact ⟨.inl (h.fl i h1), by omega⟩
     · exact ⟨.inr (.inr (by omega)), by omega⟩
   · intro i hi
     have := ea7.lt hi
     rcases eb7c i hi with h1 | h1
     · exact ⟨.inl (h.fe i h1), by omega⟩
     · exact ⟨.inr (.inr (by omega)), by omega⟩
   · intro i hi
     rcases List.mem_append.1 hi with h1 | h1
     · exact ⟨.inl (h.fE i h1), by have := h.hi i (h.fE i h1); omega⟩
     · rw [List.mem_singleton.1 h1]; exact ⟨.inr (.inl rfl), by omega⟩
   · intro i hi
     rcases hi.1 with h1 | h1 | h1
     · exact h.lo i h1
     · omega
     · omega
 · refine ⟨by omega, fun i hi hF => ?_⟩
   have n1 : ¬ F i := fun hh => hF (.inl hh)
   have n2 : i ≠ e := fun hh => hF (.inr hh)
   rw [g79 i (by omega) (fun ee => n1 (by rw [ee]; exact h.fb)) (fun ee => n1 (h.fl i ee)) (fun ee => n1 (h.fe i ee))]
   exact f3.get i hi fun hh => by
    rcases hh with hh | hh
    · exact n1 (h.fo i hh)
    · exact n2 hh
end
end Go.Im
set_option maxRecDepth 100000
set_option maxHeartbeats 4000000
namespace Go.Im
theorem invFn2 {ord : Ord} {e : Nat} {m : String} {g : Nat} (hg : AL.find (F8 ord) m = some g) : BA AL (.func (.method m) #[.iface (F8 ord) (.pointer (some ⟨e, 0, none⟩))] #[]) = some (.func (.method m) #[.iface (F8 ord) (.pointer (some ⟨e, 0, none⟩))] #[]) := by
 have := invFn ord e m
 rw [hg] at this
 exact this
theorem Nl {H : Hist} {x : List UInt8} {ord : Ord} (hr : Dz x = .ok ord) (hu : ord ≠ .undo) : Ed H x = if (run H).check ord = 0 then (if H.length = 200 then 17 else 0) else (run H).check ord := by
 unfold Ed
 rw [hr]
 by_cases c : (run H).check ord = 0
 · rw [if_pos c]
   cases ord with
   | undo => exact (hu rfl).elim
   | _ => simp only [c, ne_eq, not_true_eq_false, if_false]
 · rw [if_neg c]
   cases ord with
   | undo => exact (hu rfl).elim
   | _ => simp only [c, ne_eq, not_false_eq_true, if_true]
theorem Uf {H : Hist} {x : List UInt8} {ord : Ord} (hr : Dz x = .ok ord) (hu : ord ≠ .undo) : doH H x = if (run H).check ord = 0 then (if H.length = 200 then H else H ++ [(x, ord)]) else H := by
 unfold doH
 rw [hr]
 by_cases c : (run H).check ord = 0
 · rw [if_pos c]
   cases ord with
   | undo => exact (hu rfl).elim
   | _ => simp only [c, ne_eq, not_true_eq_false, if_false]
 · rw [if_neg c]
   cases ord with
   | undo => exact (hu rfl).elim
   | _ => simp only [c, ne_eq, not_false_eq_true, if_true]
section
variable {s : AA} {b o : Nat} {H : Hist} {F : Nat → Prop}
theorem CU.grow {G : Nat → Prop} (h : CU s b H F) (hG : ∀ i, F i → G i) (lo : ∀ i, G i → 10 ≤ i) (hi : ∀ i, G i → i < s.nx) : CU s b H G := by
 obtain ⟨tag, o, cb, pb, lb, eb, E, lv, ev, h⟩ := h
 exact ⟨tag, o, cb, pb, lb, eb, E, lv, ev, h.mono hG lo hi⟩
theorem CU.Iu {s' : AA} (h : CU s b H F) (hk : 10 ≤ s.nx) (x : Ext s s') : CU s' b H (Im.grow F s s') := by
 obtain ⟨tag, o, cb, pb, lb, eb, E, lv, ev, h⟩ := h
 exact ⟨tag, o, cb, pb, lb, eb, E, lv, ev, h.Iu hk x⟩
theorem aS {m : Nat} {x : List UInt8} {r : R (Value × AA)} (c51 : AU AL Aj m (.fn 51) [.pointer (some ⟨b, 0, none⟩)] s = .ok (.bool false, s))
 (hr : LH B16 (AU AL Aj m) m (.pointer (some ⟨b, 0, none⟩)) (.string (ofL x)) s = r) : AU AL Aj (m + 1) (.fn 16) [.pointer (some ⟨b, 0, none⟩), .string (ofL x)] s = r := by
 rw [Ap 16 c16 rfl, f16_eq, c51]
 simpa using hr
theorem ng {m : Nat} {x : List UInt8} {s1 : AA} {e : Int} (he : e ≠ 0) (d52 : AU AL Aj m (.fn 52) [.string (ofL x)] s = .ok (.tuple ⟨[.nilIface, .int .i64 e]⟩, s1)) :
 LH B16 (AU AL Aj m) m (.pointer (some ⟨b, 0, none⟩)) (.string (ofL x)) s = .ok (.int .i64 e, s1) := by
 rw [NP B16 rfl]
 simp [d52, he]
theorem kG {m : Nat} {x : List UInt8} {s1 : AA} {r : Value × AA} (d52 : AU AL Aj m (.fn 52) [.string (ofL x)] s = .ok (.tuple ⟨[.nilIface, .int .i64 0]⟩, s1)) (d53 : AU AL Aj m (.fn 53) [.pointer (some ⟨b, 0, none⟩)] s1 = .ok r) :
 LH B16 (AU AL Aj m) m (.pointer (some ⟨b, 0, none⟩)) (.string (ofL x)) s = .ok r := by
 rw [NP B16 rfl]
 simp [d52, Rx B16 rfl, d53]
theorem k16_a {m : Nat} {x : List UInt8} {s1 : AA} {v : Value} (d52 : AU AL Aj m (.fn 52) [.string (ofL x)] s = .ok (.tuple ⟨[v, .int .i64 0]⟩, s1)) :
 LH B16 (AU AL Aj m) m (.pointer (some ⟨b, 0, none⟩)) (.string (ofL x)) s = U9 B16 (AU AL Aj m) m (.pointer (some ⟨b, 0, none⟩)) (.string (ofL x)) v s1 := by
 rw [NP B16 rfl]
 simp [d52]
theorem k16_b {m : Nat} {x : List UInt8} {t : Nat} {v : Value} :
 U9 B16 (AU AL Aj m) m (.pointer (some ⟨b, 0, none⟩)) (.string (ofL x)) (.iface t v) s = UA B16 (AU AL Aj m) m (.pointer (some ⟨b, 0, none⟩)) (.string (ofL x)) (.iface t v) s := by
 rw [Rx B16 rfl]
 simp
theorem k16_c {m : Nat} {x : List UInt8} {s1 s2 : AA} {v : Value} {c : Int} (r0 : s1.rd1 b 0 = some (.pointer (some ⟨o, 0, none⟩)))
 (hm1 : BA AL (.func (.method "agonic/logbook.check") ⟨[v]⟩ ⟨[]⟩) = some (.func (.method "agonic/logbook.check") ⟨[v]⟩ ⟨[]⟩)) (nb2 : Nat.ble s1.nx s2.nx = true)
 (d2 : invV AL (AU AL Aj m) "agonic/logbook.check" [.pointer (some ⟨o, 0, none⟩)] s1 v = .ok (.int .i64 c, s2)) :
 UA B16 (AU AL Aj m) m (.pointer (some ⟨b, 0, none⟩)) (.string (ofL x)) v s1 = cond (!decide (c = 0)) (.ok (.int .i64 c, s2)) (UC B16 (AU AL Aj m) m (.pointer (some ⟨b, 0, none⟩)) (.string (ofL x)) v s2) := by
 rw [ZO B16 rfl]
 simp only [Es, AY, Aq, DJ, DN, CO, Nat.zero_add, r0, CQ, cond_true, hm1, d2, nb2, bind_ok, DF, Af]
theorem k16_J3 {m : Nat} {x : List UInt8} {s1 s2 : AA} {t e : Nat} {c : Int} (d52 : AU AL Aj m (.fn 52) [.string (ofL x)] s = .ok (.tuple ⟨[.iface t (.pointer (some ⟨e, 0, none⟩)), .int .i64 0]⟩, s1)) (r0 : s1.rd1 b 0 = some (.pointer (some ⟨o, 0, none⟩)))
 (hm1 : BA AL (.func (.method "agonic/logbook.check") ⟨[.iface t (.pointer (some ⟨e, 0, none⟩))]⟩ ⟨[]⟩) = some (.func (.method "agonic/logbook.check") ⟨[.iface t (.pointer (some ⟨e, 0, none⟩))]⟩ ⟨[]⟩)) (nb2 : Nat.ble s1.nx s2.nx = true)
 (d2 : invV AL (AU AL Aj m) "agonic/logbook.check" [.pointer (some ⟨o, 0, none⟩)] s1 (.iface t (.pointer (some ⟨e, 0, none⟩))) = .ok (.int .i64 c, s2)) :
 LH B16 (AU AL Aj m) m (.pointer (some ⟨b, 0, none⟩)) (.string (ofL x)) s = if c = 0 then UC B16 (AU AL Aj m) m (.pointer (some ⟨b, 0, none⟩)) (.string (ofL x)) (.iface t (.pointer (some ⟨e, 0, none⟩))) s2 else .ok (.int .i64 c, s2) := by
 rw [k16_a d52, k16_b, k16_c r0 hm1 nb2 d2]
 by_cases h : c = 0 <;> simp [h]
theorem k16 (n : Nat) (hn : 400 ≤ n) (x : List UInt8) (hk : KOk s) (hB : CU s b H F) :
 ∃ s', AU AL Aj n (.fn 16) [.pointer (some ⟨b, 0, none⟩), .string (ofL x)] s = .ok (.int .i64 (Ed H x), s') ∧ CU s' b (doH H x) (Im.grow F s s') ∧ Fr s s' F ∧ KOk s' := by
 obtain ⟨m, rfl, hm⟩ := Ac (show 1 ≤ n by omega)
 have hk10 := hk.nx
 obtain ⟨tag, o, cb, pb, lb, eb, E, lv, ev, h⟩ := hB
 have c51 := k51 m (by omega) h
 obtain ⟨v, s1, d52, x1, post⟩ := k52 (ofL x) m (by omega) s hk
 rw [Bj] at post
 have h1 := h.ext x1
 have hk1 := hk.ext x1
 have start := fun r h => aS (r := r) (x := x) c51 h
 unfold EF at post
 cases hr : Dz x with
 | error e =>
  rw [hr] at post
  have E1 : Ed H x = e := by unfold Ed; rw [hr]
  have E2 : doH H x = H := by unfold doH; rw [hr]
  rw [E1, E2]
  obtain ⟨rfl, he⟩ := post
  exact ⟨s1, start _ (ng he d52), ⟨tag, o, cb, pb, lb, eb, E, lv, ev, h.Iu hk10 x1⟩, .of_ext x1 _, hk1⟩
 | ok ord =>
  rw [hr] at post
  dsimp only at post
  cases ho : TB ord with
  | none =>
   rw [ho] at post
   dsimp only at post
   subst post
   have hu : ord = .undo := by cases ord <;> first | rfl | cases ho
   subst hu
   have st2 := fun r h => start _ (kG (r := r) d52 h)
   have E1 : Ed H x = if H.length = 0 then 2 else 0 := by unfold Ed; rw [hr]
   have E2 : doH H x = H.take (H.length - 1) := by unfold doH; rw [hr]
   rw [E1, E2]
   by_cases h0 : H.length = 0
   · refine ⟨s1, ?_, ?_, .of_ext x1 _, hk1⟩
     · rw [st2 _ (nZ m (by omega) h1 h0)]; simp [h0]
     · have e0 : H.take (H.length - 1) = H := List.take_of_length_le (by omega)
       show CU s1 b (H.take (H.length - 1)) _
       rw [e0]; exact ⟨tag, o, cb, pb, lb, eb, E, lv, ev, h.Iu hk10 x1⟩
   · obtain ⟨s2, d2, b2, f2⟩ := k53 m (by omega) h1 (by omega)
     refine ⟨s2, ?_, ?_, (Fr.of_ext x1 F).tr f2, Fr.kok hk1 f2 h.lo⟩
     · rw [st2 _ d2]; simp [h0]
     · exact b2.grow (fun i hi => ⟨.inl hi, by have := h.hi i hi; have := x1.nx; have := f2.nx; omega⟩) (Oh h.lo hk10) fun i hi => hi.2
  | some t =>
   obtain ⟨ty, cs, el⟩ := t
   rw [ho] at post
   dsimp only at post
   obtain ⟨e, e1, e2, rfl, e4⟩ := post
   obtain ⟨rfl, rfl, fc, fa, hfc, hfa⟩ := Vj ho
   have hu : ord ≠ .undo := fun hh => by subst hh; cases ho
   have hcl := h.ok.inv.Nk
   obtain ⟨s2, d2, x2⟩ := kCheck m h1.off (by omega) (by omega) ord ho e e2 e4
   have h2 := h1.ext x2
   have hk2 := hk1.ext x2
   have x12 := x1.trans x2
   have r0 : s1.rd1 b 0 = some (.pointer (some ⟨o, 0, none⟩)) := by rw [Ai h1.hb]; rfl
   have r1 : s2.rd1 b 1 = some lv := by rw [Ai h2.hb]; rfl
   have nb2 : Nat.ble s1.nx s2.nx = true := Ae.2 x2.nx
   have hm1 := invFn2 (e := e) hfc
   have J3 := k16_J3 d52 r0 hm1 nb2 d2
   rw [Nl hr hu, Uf hr hu]
   by_cases c : (run H).check ord = 0
   · rw [if_pos c, if_pos c]
     rw [if_pos c] at J3
     by_cases cl : H.length = 200
     · rw [if_pos cl, if_pos cl]
       refine ⟨s2, start _ (J3.trans ?_), ⟨tag, o, cb, pb, lb, eb, E, lv, ev, h.Iu hk10 x12⟩, .of_ext x12 _, hk2⟩
       rw [Ry B16 rfl]
       have e200 : (H.length : Int) = 200 := by omega
       simp [r1, h2.la.len_eq, e200]
     · rw [if_neg cl, if_neg cl]
       have hord : ord.ok := by
        rcases Vh hr with hh | hh
        · exact (hu hh).elim
        · exact hh
       have hlen := h.len
       have x1n := x1.nx
       have x2n := x2.nx
       obtain ⟨s3, d3, b3, f3⟩ := k16_J5 m m (by omega) h2 x ord ho ⟨hord, c⟩ hr (by omega) e (by omega) (by omega) (fun hh => by have := h.hi e hh; omega) ((x2.get e e2).trans e4)
       have f3n := f3.nx
       refine ⟨s3, start _ (J3.trans ?_), ?_, ⟨by omega, fun i hi hF => ?_⟩, ?_⟩
       · rw [Ry B16 rfl]
         have n200 : ¬ (H.length : Int) = 200 := by omega
         have d3' : UD B16 (AU AL Aj m) m (.pointer (some ⟨b, 0, none⟩)) (.string (ofL x)) (.iface (F8 ord) (.pointer (some ⟨e, 0, none⟩))) s2 = .ok (.int .i64 0, s3) := d3
         simp [r1, h2.la.len_eq, n200, d3']
       · refine b3.grow (fun i hi => ⟨?_, hi.2⟩) (Oh h.lo hk10) fun i hi => hi.2
         rcases hi.1 with h5 | h5 | h5
         · exact .inl h5
         · exact .inr (by omega)
         · exact .inr (by omega)
       · rw [f3.get i (by omega) (fun hh => by rcases hh with hh | hh; exact hF hh; omega)]
         exact x12.get i hi
       · exact Fr.kok hk2 f3 fun i hi => by rcases hi with hi | hi; exact h.lo i hi; omega
   · rw [if_neg c, if_neg c]
     rw [if_neg c] at J3
     exact ⟨s2, start _ J3, ⟨tag, o, cb, pb, lb, eb, E, lv, ev, h.Iu hk10 x12⟩, .of_ext x12 _, hk2⟩
end
end Go.Im
set_option maxRecDepth 100000
namespace Go.Im
def nameAt (C : List CG) (i : Nat) : List UInt8 := match C[i]? with | some c => c.name | none => []
theorem XU {s s' : AA} {cs : List Value} {el w : Nat} (hs : s' = s.new (.cells cs el true)) (hw : cs.length = w) : DL s' w (Bo 1 1 s.nx) = some cs := by
 show s'.rd s.nx 0 (Nat.mul 1 w) = _
 have e : Nat.mul 1 w = w := Nat.one_mul w
 rw [e, ED (by rw [hs, AA.Ak, if_pos rfl]) (by omega), List.drop_zero, List.take_of_length_le (by omega)]
theorem len1 {α : Type} {W : List α} (h : W.length = 1) : ∃ a, W = [a] := by
 match W, h with
 | [a], _ => exact ⟨a, rfl⟩
theorem len4 {α : Type} {W : List α} (h : W.length = 4) : ∃ a b c d, W = [a, b, c, d] := by
 match W, h with
 | [a, b, c, d], _ => exact ⟨a, b, c, d, rfl⟩
theorem drop_at {α : Type} {l : List α} {i : Nat} {c : α} (h : l[i]? = some c) : l.drop i = c :: l.drop (i + 1) := by
 have hl := (List.getElem?_eq_some_iff.1 h).1
 rw [List.drop_eq_getElem_cons hl]
 congr 1
 exact (List.getElem?_eq_some_iff.1 h).2
end Go.Im

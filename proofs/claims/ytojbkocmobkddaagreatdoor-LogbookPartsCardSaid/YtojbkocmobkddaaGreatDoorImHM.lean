/- Plain law of the distance: swaps compass by compass are as many as the rings tell. -/
import Derived.Test.YtojbkocmobkddaaGreatDoorImPB
set_option linter.all false
namespace Go.Im
def atD (h : List Nat) (i : Nat) : Nat := h.getD i 0
def mtD (m : List Bool) (i : Nat) : Bool := m.getD i true
structure Perm (h : List Nat) : Prop where
 lt : ∀ i, i < h.length → atD h i < h.length
 inj : ∀ i j, i < h.length → j < h.length → atD h i = atD h j → i = j
structure Outer (g p : List Nat) (m : List Bool) : Prop where
 pl : p.length = g.length
 ml : m.length = g.length
 fx : ∀ z, z < g.length → mtD m z = true → atD p z = z
 un : ∀ z, z < g.length → mtD m z = false → atD p z = atD g z
 sj : ∀ z, z < g.length → mtD m z = true → ∃ y, y < g.length ∧ mtD m y = true ∧ atD g y = z
structure Inner (g p : List Nat) (m : List Bool) (c i q : Nat) : Prop where
 pl : p.length = g.length
 ml : m.length = g.length
 cl : c < g.length
 ci : atD p c = i
 fx : ∀ z, z < g.length → z ≠ c → mtD m z = true → atD p z = z
 un : ∀ z, z < g.length → z ≠ c → mtD m z = false → atD p z = atD g z
 mc : mtD m c = true
 il : i < g.length
 ql : q < g.length
 mq : mtD m q = true
 gq : atD g q = i
 sj : ∀ z, z < g.length → z ≠ c → mtD m z = true → ∃ y, y < g.length ∧ mtD m y = true ∧ y ≠ q ∧ atD g y = z
end Go.Im
set_option maxRecDepth 100000
set_option maxHeartbeats 4000000
namespace Go.Im
theorem Perm.app {h : List Nat} (p : Perm h) : Perm (h ++ [h.length]) := by
 have at1 : ∀ i, i < h.length → atD (h ++ [h.length]) i = atD h i := fun i hi => by unfold atD; rw [List.getD_eq_getElem?_getD, List.getD_eq_getElem?_getD, List.getElem?_append_left hi]
 have at2 : atD (h ++ [h.length]) h.length = h.length := by unfold atD; rw [List.getD_eq_getElem?_getD, List.getElem?_append_right (Nat.le_refl _)]; simp
 refine ⟨fun i hi => ?_, fun i j hi hj e => ?_⟩
 · simp at hi ⊢
   by_cases c : i < h.length
   · rw [at1 i c]; have := p.lt i c; omega
   · obtain rfl : i = h.length := by omega
     rw [at2]; omega
 · simp at hi hj
   by_cases c : i < h.length
   · by_cases d : j < h.length
     · rw [at1 i c, at1 j d] at e; exact p.inj i j c d e
     · obtain rfl : j = h.length := by omega
       rw [at1 i c, at2] at e; have := p.lt i c; omega
   · obtain rfl : i = h.length := by omega
     by_cases d : j < h.length
     · rw [at1 j d, at2] at e; have := p.lt j d; omega
     · omega
theorem O4 {x : List UInt8} : ∀ {C : List Bo} {i : Nat}, BF x C i < 0 → x ∉ nms C
 | [], _, _ => by simp [nms]
 | c :: C, i, h => by
  unfold BF at h
  by_cases e : c.name = x
  · rw [if_pos e] at h; omega
  · rw [if_neg e] at h
    have := O4 h
    intro hm
    rcases List.mem_cons.1 (show x ∈ c.name :: nms C from hm) with h1 | h1
    · exact e h1.symm
    · exact this h1
structure NInv (C : List Bo) : Prop where
 nd : (nms C).Nodup
 ok : ∀ x ∈ nms C, nameB x = true
theorem XY {W : List (List UInt8)} {a : List UInt8} (h : FU W = .ok (.new a)) : nameB a = true := by
 unfold FU at h
 split at h
 · simp at h
 · rename_i fm hf
   by_cases hl : W.length ≠ fm.length + 1
   · rw [if_pos hl] at h; simp at h
   · rw [if_neg hl] at h
     have hl := Classical.not_not.1 hl
     by_cases h1 : CG decimal 68 fm (W.drop 1) = true
     · rw [if_pos h1] at h; simp at h
     · rw [if_neg h1] at h
       by_cases h2 : CG nameB 78 fm (W.drop 1) = true
       · rw [if_pos h2] at h; simp at h
       · rw [if_neg h2] at h
         by_cases h3 : CG isKind 75 fm (W.drop 1) = true
         · rw [if_pos h3] at h; simp at h
         · rw [if_neg h3] at h
           by_cases h4 : fm = [78, 68, 68] ∧ (CU (wd W 2) 0 7 && CU (wd W 3) (-300) 300) = false
           · rw [if_pos h4] at h; simp at h
           · rw [if_neg h4] at h
             have h := (Except.ok.inj h).symm
             have h2 := Bool.eq_false_iff.2 h2
             unfold Dx Ec at hf
             unfold Ez at h
             by_cases c1 : wd W 0 = Dq
             · rw [if_pos c1] at h hf
               have hf := Option.some.inj hf
               injection h with h
               subst h
               have il : (0 : Nat) < fm.length := by rw [← hf]; decide
               refine NP h2 (i := 0) (c := 78) (by rw [← hf]; rfl) rfl ?_
               rw [List.getElem?_drop]
               unfold wd
               rw [List.getD_eq_getElem?_getD, List.getElem?_eq_getElem (by omega)]; rfl
             · rw [if_neg c1] at h
               by_cases c2 : wd W 0 = Ci
               · rw [if_pos c2] at h; cases h
               · rw [if_neg c2] at h
                 by_cases c3 : wd W 0 = CW
                 · rw [if_pos c3] at h; cases h
                 · rw [if_neg c3] at h
                   by_cases c4 : wd W 0 = Cj
                   · rw [if_pos c4] at h; cases h
                   · rw [if_neg c4] at h; cases h
theorem XZ {x a : List UInt8} (h : EM x = .ok (.new a)) : nameB a = true := by
 unfold EM at h
 by_cases c : 60 < x.length
 · rw [if_pos c] at h; simp at h
 · rw [if_neg c] at h
   by_cases c2 : DI x 32 = true
   · rw [if_pos c2] at h; exact XY h
   · rw [if_neg c2] at h; simp at h
theorem aI {O : Off} {ord : Ord} (f : Fits O ord) : nms (O.apply ord).comps = match ord with | .new a => nms O.comps ++ [a] | _ => nms O.comps := by
 cases ord with
 | new a => show nms (O.arrive a).comps = _; rw [ER]; simp [nms, newC]
 | swap a b k => exact QF _ _ _ _
 | card a k d => show nms (setTold (setCard _ _ _ _) _ _ _) = _; rw [Nz, Ny]
 | mend a k =>
  obtain ⟨ca, hk, _⟩ := ES f
  show nms (O.mend _ _).comps = _
  rw [GH (DJ ca).2.1]; exact Hr _ _ _ _
 | undo => rfl
theorem NInv.apply {O : Off} (h : NInv O.comps) {ord : Ord} (f : Fits O ord) {x : List UInt8} (r : EM x = .ok ord) : NInv (O.apply ord).comps := by
 have e := aI f
 cases ord with
 | new a =>
  simp only at e
  refine ⟨?_, ?_⟩
  · rw [e, List.nodup_append]
    refine ⟨h.nd, by simp, fun b hb c hc => ?_⟩
    rw [List.mem_singleton] at hc
    subst hc
    intro hbc
    exact O4 (Va f).1 (by rw [← hbc]; exact hb)
  · intro y hy
    rw [e] at hy
    rcases List.mem_append.1 hy with hy | hy
    · exact h.ok y hy
    · rw [List.mem_singleton.1 hy]; exact XZ r
 | undo => exact ⟨by rw [e]; exact h.nd, by rw [e]; exact h.ok⟩
 | swap a b k => exact ⟨by rw [e]; exact h.nd, by rw [e]; exact h.ok⟩
 | card a k d => exact ⟨by rw [e]; exact h.nd, by rw [e]; exact h.ok⟩
 | mend a k => exact ⟨by rw [e]; exact h.nd, by rw [e]; exact h.ok⟩
theorem HOk.names {H : Hist} (h : HOk H) : NInv (run H).comps := by
 have : ∀ n, n ≤ H.length → NInv (run (H.take n)).comps := by
  intro n
  induction n with
  | zero => intro _; rw [List.take_zero]; exact ⟨List.nodup_nil, (fun x hx => by cases hx)⟩
  | succ n ih =>
   intro hn
   obtain ⟨x, hx⟩ := BX (show n < H.length by omega)
   obtain ⟨f, r⟩ := h n x hx
   have e : H.take (n + 1) = H.take n ++ [x] := by rw [List.take_add_one, hx]; rfl
   rw [e, F5]
   exact (ih (by omega)).apply f r
 have t := this H.length (Nat.le_refl _)
 rwa [List.take_length] at t
def DV (c : Bo) : Bo := ⟨c.name, c.parts, [0, 0, 0, 0, 0, 0, 0, 0], [false, false, false, false, false, false, false, false]⟩
def blank (O : Off) : Off := ⟨O.comps.map DV, O.parts⟩
theorem SX (C : List Bo) : nms (C.map DV) = nms C := by unfold nms; rw [List.map_map]; rfl
theorem FW (C : List Bo) (j k : Nat) : partAt (C.map DV) j k = partAt C j k := by
 unfold partAt; rw [List.getElem?_map]; cases C[j]? <;> rfl
theorem IB (C : List Bo) (j k v : Nat) : setPart (C.map DV) j k v = (setPart C j k v).map DV := by
 unfold setPart
 rw [List.getElem?_map]
 cases h : C[j]? with
 | none => rfl
 | some c => simp only [Option.map_some]; rw [List.map_set]; rfl
theorem NQ (C : List Bo) (a : List UInt8) : cix (C.map DV) a = cix C a := by unfold cix; rw [FB a _ C 0 (SX C)]
theorem En.blank {O : Off} {K : List Nat} (h : En O K) : En (blank O) K := by
 refine ⟨h.ML, ?_, ?_, ?_, ?_⟩
 · intro c hc
   obtain ⟨d, hd, rfl⟩ := List.mem_map.1 hc
   exact ⟨(h.ok d hd).1, rfl, rfl⟩
 · intro j k hj hk
   have hj : j < O.comps.length := by simpa [Im.blank] using hj
   show ∃ t, O.parts[partAt (O.comps.map DV) j k]? = some t ∧ _ ∧ K[partAt (O.comps.map DV) j k]? = some k
   rw [FW]; exact h.at_ j k hj hk
 · intro i t k h1 h2 h3
   obtain ⟨j, q1, q2, q3, q4⟩ := h.uniq i t k h1 h2 h3
   exact ⟨j, q1, by simpa [Im.blank] using q2, by show partAt (O.comps.map DV) j k = i; rw [FW]; exact q3, q4⟩
 · intro t ht
   obtain ⟨j, h1, h2⟩ := h.home t ht
   exact ⟨j, h1, by simpa [Im.blank] using h2⟩
theorem QI {O : Off} {ord : Ord} (f : Fits O ord) : Fits (blank O) ord := by
 have e := fun a => FB a (O.comps.map DV) O.comps 0 (SX _)
 have l : (O.comps.map DV).length = O.comps.length := by simp
 refine ⟨f.ok, ?_⟩
 have := f.chk
 cases ord <;> simp only [Off.check, blank, e, l] at this ⊢ <;> exact this
theorem Vf {O : Off} {ord : Ord} (f : Fits O ord) (hc : ∀ a k d, ord ≠ .card a k d) : blank (O.apply ord) = (blank O).apply ord := by
 cases ord with
 | new a =>
  show blank (O.arrive a) = (blank O).arrive a
  rw [ER, ER]
  simp [blank, DV, newC]
 | swap a b k =>
  show blank (O.swap _ _ _) = (blank O).swap (cix (O.comps.map DV) a) (cix (O.comps.map DV) b) k.toNat
  rw [NQ, NQ]
  show (⟨(setPart (setPart _ _ _ _) _ _ _).map DV, setH (setH _ _ _) _ _⟩ : Off) = ⟨setPart (setPart (O.comps.map DV) _ _ (partAt (O.comps.map DV) _ _)) _ _ (partAt (O.comps.map DV) _ _), setH (setH O.parts (partAt (O.comps.map DV) _ _) _) (partAt (O.comps.map DV) _ _) _⟩
  rw [FW, FW, IB, IB]
 | card a k d => exact (hc a k d rfl).elim
 | mend a k =>
  obtain ⟨ca, hk, _⟩ := ES f
  have hl := (DJ ca).2.1
  show blank (O.mend _ _) = (blank O).mend (cix (O.comps.map DV) a) k.toNat
  rw [NQ, GH hl, GH (O := blank O) (by show _ < (O.comps.map DV).length; simpa using hl)]
  show (⟨(setPart _ _ _ _).map DV, _⟩ : Off) = ⟨setPart (O.comps.map DV) _ _ O.parts.length, setH O.parts (partAt (O.comps.map DV) _ _) (-1) ++ [(_, Dt O.parts (partAt (O.comps.map DV) _ _))]⟩
  rw [FW, IB]
 | undo => rfl
theorem Xa {O : Off} {a : List UInt8} {k d : Int} (f : Fits O (.card a k d)) : blank (O.apply (.card a k d)) = blank O := by
 obtain ⟨ca, hk, _⟩ := KA f
 obtain ⟨_, hl, c, hc, _⟩ := DJ ca
 show blank (O.tell _ _ _ _) = _
 rw [OU hc]
 unfold blank
 simp only [Off.mk.injEq, and_true]
 rw [List.map_set]
 exact set_self (by rw [List.getElem?_map, hc]; rfl)
end Go.Im
set_option maxRecDepth 100000
set_option maxHeartbeats 4000000
namespace Go.Im
theorem Xq {W : List (List UInt8)} {a : List UInt8} {k d : Int} (h : FU W = .ok (.card a k d)) : -300 ≤ d ∧ d ≤ 300 := by
 unfold FU at h
 split at h
 · simp at h
 · rename_i fm hf
   by_cases hl : W.length ≠ fm.length + 1
   · rw [if_pos hl] at h; simp at h
   · rw [if_neg hl] at h
     by_cases h1 : CG decimal 68 fm (W.drop 1) = true
     · rw [if_pos h1] at h; simp at h
     · rw [if_neg h1] at h
       by_cases h2 : CG nameB 78 fm (W.drop 1) = true
       · rw [if_pos h2] at h; simp at h
       · rw [if_neg h2] at h
         by_cases h3 : CG isKind 75 fm (W.drop 1) = true
         · rw [if_pos h3] at h; simp at h
         · rw [if_neg h3] at h
           by_cases h4 : fm = [78, 68, 68] ∧ (CU (wd W 2) 0 7 && CU (wd W 3) (-300) 300) = false
           · rw [if_pos h4] at h; simp at h
           · rw [if_neg h4] at h
             have h := (Except.ok.inj h).symm
             unfold Dx Ec at hf
             unfold Ez at h
             by_cases c1 : wd W 0 = Dq
             · rw [if_pos c1] at h; cases h
             · rw [if_neg c1] at h hf
               by_cases c2 : wd W 0 = Ci
               · rw [if_pos c2] at h; cases h
               · rw [if_neg c2] at h hf
                 by_cases c3 : wd W 0 = CW
                 · rw [if_pos c3] at h hf
                   have hf := Option.some.inj hf
                   injection h with _ _ h
                   subst h
                   have h5 : (CU (wd W 2) 0 7 && CU (wd W 3) (-300) 300) = true := by
                    cases hb : (CU (wd W 2) 0 7 && CU (wd W 3) (-300) 300) with
                    | true => rfl
                    | false => exact absurd ⟨by rw [← hf], hb⟩ h4
                   rw [Bool.and_eq_true] at h5
                   exact SQ h5.2
                 · rw [if_neg c3] at h
                   by_cases c4 : wd W 0 = Cj
                   · rw [if_pos c4] at h; cases h
                   · rw [if_neg c4] at h; cases h
theorem Xr {x a : List UInt8} {k d : Int} (h : EM x = .ok (.card a k d)) : -300 ≤ d ∧ d ≤ 300 := by
 unfold EM at h
 by_cases c : 60 < x.length
 · rw [if_pos c] at h; simp at h
 · rw [if_neg c] at h
   by_cases c2 : DI x 32 = true
   · rw [if_pos c2] at h; exact Xq h
   · rw [if_neg c2] at h; simp at h
def G5 (C : List Bo) : Prop := ∀ c ∈ C, ∀ v ∈ c.card, -300 ≤ v ∧ v ≤ 300
theorem G5.setPart {C : List Bo} (h : G5 C) (j k v : Nat) : G5 (setPart C j k v) := by
 intro c hc
 unfold Im.setPart at hc
 split at hc
 · rename_i d hd
   rcases List.mem_or_eq_of_mem_set hc with hc | rfl
   · exact h c hc
   · exact h d (List.mem_of_getElem? hd)
 · exact h c hc
theorem G5.setCard {C : List Bo} (h : G5 C) (j k : Nat) {v : Int} (hv : -300 ≤ v ∧ v ≤ 300) : G5 (setCard C j k v) := by
 intro c hc
 unfold Im.setCard at hc
 split at hc
 · rename_i d hd
   rcases List.mem_or_eq_of_mem_set hc with hc | rfl
   · exact h c hc
   · intro w hw
     rcases List.mem_or_eq_of_mem_set hw with hw | rfl
     · exact h d (List.mem_of_getElem? hd) w hw
     · exact hv
 · exact h c hc
theorem G5.setTold {C : List Bo} (h : G5 C) (j k : Nat) (v : Bool) : G5 (setTold C j k v) := by
 intro c hc
 unfold Im.setTold at hc
 split at hc
 · rename_i d hd
   rcases List.mem_or_eq_of_mem_set hc with hc | rfl
   · exact h c hc
   · exact h d (List.mem_of_getElem? hd)
 · exact h c hc
theorem HOk.cards {H : Hist} (h : HOk H) : G5 (run H).comps := by
 have : ∀ n, n ≤ H.length → G5 (run (H.take n)).comps := by
  intro n
  induction n with
  | zero => intro _; rw [List.take_zero]; intro c hc; cases hc
  | succ n ih =>
   intro hn
   obtain ⟨x, hx⟩ := BX (show n < H.length by omega)
   obtain ⟨f, r⟩ := h n x hx
   have e : H.take (n + 1) = H.take n ++ [x] := by rw [List.take_add_one, hx]; rfl
   have i := ih (by omega)
   rw [e, F5]
   obtain ⟨y, ord⟩ := x
   cases ord with
   | new a =>
    show G5 (Off.arrive _ a).comps
    rw [ER]
    intro c hc
    rcases List.mem_append.1 hc with hc | hc
    · exact i c hc
    · rw [List.mem_singleton.1 hc]
      intro v hv
      simp [newC] at hv
      omega
   | swap a b k => exact (i.setPart _ _ _).setPart _ _ _
   | card a k d => exact (i.setCard _ _ (Xr r)).setTold _ _ _
   | mend a k =>
    obtain ⟨ca, hk, _⟩ := ES f
    show G5 (Off.mend _ _ _).comps
    rw [GH (DJ ca).2.1]
    exact i.setPart _ _ _
   | undo => exact i
 have t := this H.length (Nat.le_refl _)
 rwa [List.take_length] at t
end Go.Im

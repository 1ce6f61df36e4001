/- The ideal machine: regions that draw their order (5): the whole. -/
import Derived.Test.YtojbkocmobkddaaGreatDoorImS16d
namespace Go.Im
section
variable {X : Cx} {T : MT} {self : Self} {env : Env} {s : IState} {l : List (IOper × List Nat)} {rds : List (Nat × List Nat)} {rs : List Rec} {env' : Env} {s' : IState} {S : Nat → IState} {E : Nat → Env} {V : Nat → Value}
variable {F : Fence} {inR : Bool} {n : Nat} {m0 : Map} {w0 : World} {a0 : Act} {ops : Array Oper} {nt B : Nat} {Q : Exit → Act → World → Prop}

theorem nodup_filterMap_idx {α : Type} (f : α → Option Nat) : ∀ (L : List α), (L.filterMap f).Nodup → ∀ (i j : Nat) (x y : α) (d : Nat), L[i]? = some x → L[j]? = some y → f x = some d → f y = some d → i = j
  | [], _, i, j, x, y, d, h, _, _, _ => by simp at h
  | z :: L, hn, i, j, x, y, d, hi, hj, hx, hy => by
    have htail : (L.filterMap f).Nodup := by
      cases hz : f z with
      | none => rw [List.filterMap_cons_none hz] at hn; exact hn
      | some c => rw [List.filterMap_cons_some hz] at hn; exact (List.nodup_cons.1 hn).2
    have hnot : ∀ k u, L[k]? = some u → f u = some d → f z = some d → False := fun k u hk hu hz => by
      rw [List.filterMap_cons_some hz] at hn
      exact (List.nodup_cons.1 hn).1 (List.mem_filterMap.2 ⟨u, List.mem_of_getElem? hk, hu⟩)
    cases i with
    | zero =>
      simp at hi; subst hi
      cases j with
      | zero => rfl
      | succ j => exact (hnot j y (by simpa using hj) hy hx).elim
    | succ i =>
      cases j with
      | zero => simp at hj; subst hj; exact (hnot i x (by simpa using hi) hx hy).elim
      | succ j => rw [nodup_filterMap_idx f L htail i j x y d (by simpa using hi) (by simpa using hj) hx hy]

theorem okOpers_get {P : Program} {G TA TK : List Nat} {nt : Nat} {ops : Array Oper} : ∀ {l : List IOper} {l' : List Oper}, okOpers P G TA TK nt ops l l' = true → l.length = l'.length ∧ ∀ (i : Nat) (o : IOper), l[i]? = some o → ∃ oo, l'[i]? = some oo ∧ okOper P G TA TK nt ops o oo = true
  | [], [], _ => ⟨rfl, fun i o h => by simp at h⟩
  | a :: l, b :: l', h => by
    simp only [okOpers, Bool.and_eq_true] at h
    obtain ⟨h1, h2⟩ := okOpers_get h.2
    refine ⟨by simp [h1], fun i o hi => ?_⟩
    cases i with
    | zero => simp at hi; subst hi; exact ⟨b, by simp, h.1⟩
    | succ i => simpa using h2 i o (by simpa using hi)
  | [], _ :: _, h => by simp [okOpers] at h
  | _ :: _, [], h => by simp [okOpers] at h

theorem reg_of (h1 : okOpers X.P X.G X.TA X.TK nt ops (l.map (·.1)) ops.toList = true) (h2 : okPairs ops l rds = true) (h3 : okShape ops = true) : Reg X nt ops l rds := by
  obtain ⟨hlen, hop⟩ := okOpers_get h1
  have hlen' : l.length = ops.size := by simpa using hlen
  have hop' : ∀ (i : Nat) (o : IOper × List Nat), l[i]? = some o → ∃ oo, ops[i]? = some oo ∧ okOper X.P X.G X.TA X.TK nt ops o.1 oo = true := fun i o hi => by
    obtain ⟨oo, g1, g2⟩ := hop i o.1 (by simp [hi])
    exact ⟨oo, by simpa using g1, g2⟩
  refine ⟨hlen', hop', fun i j hij hj => ?_, fun i j u v d hi hj hu hv => ?_⟩
  · unfold okPairs at h2
    have := List.all_eq_true.1 (List.all_eq_true.1 h2 j (List.mem_range.2 hj)) i (List.mem_range.2 hij)
    simpa using this
  · obtain ⟨ou, g1, g2⟩ := hop' i u hi
    obtain ⟨ov, g3, g4⟩ := hop' j v hj
    simp only [okOper, Bool.and_eq_true, decide_eq_true_eq] at g2 g4
    simp only [okShape, Bool.and_eq_true, decide_eq_true_eq] at h3
    exact nodup_filterMap_idx (·.dst) ops.toList h3.2 i j ou ov d (by simpa using g1) (by simpa using g3) (by rw [← g2.1.1.1.1]; exact hu) (by rw [← g4.1.1.1.1]; exact hv)

theorem shape_back (h3 : okShape ops = true) {i : Nat} {o : Oper} (hi : ops[i]? = some o) : ∀ e ∈ o.after.toList, binds e = true → e.on < i := fun e he hb => by
  simp only [okShape, Bool.and_eq_true] at h3
  have hm : (o, i) ∈ ops.toList.zipIdx := by
    rw [List.mem_zipIdx_iff_getElem?]
    simpa using hi
  have := List.all_eq_true.1 (List.all_eq_true.1 h3.1 (o, i) hm) e he
  simp only [hb, Bool.not_true, Bool.false_or, decide_eq_true_eq] at this
  exact this

/-- The end of the region. -/
theorem Inv.finish (ht : Trace T self l env s rs env' s' S E V) {done : Nat → Prop} {J : Nat} {m : Map} {a : Act} {w : World} (h : Inv X l S V m0 w0 a0 done J m a w) (hE : EnvRel m0 env a0.tmps) (hR0 : Rl X m0 (S 0) w0)
    (hdl : ∀ i, done i → i < l.length) (hall : ∀ i, i < l.length → done i) (hnt : a0.tmps.size = nt) (hmk : Marks m0 w0 B a0.defers) (hlow : B ≤ w0.heap.size) :
    St X nt B (m.to (S l.length).nx) (E l.length) (S l.length) a w ∧ Step m0 (S 0) w0 (m.to (S l.length).nx) (S l.length) w := by
  have hJl := h.jle
  have hno : ∀ i o, J ≤ i → i < l.length → l[i]? = some o → isWr o.1.op = false := fun i o g1 g2 g3 => by
    cases hw : isWr o.1.op with
    | false => rfl
    | true => have := (h.wr i o g3 hw).1 (hall i g2); omega
  have hR := h.at ht hdl hJl (Nat.le_refl _) hno hR0
  have h0n := ht.nx_mono (Nat.zero_le l.length) (Nat.le_refl _)
  have hle : m0.le (m.to (S l.length).nx) := fun b p hb => Map.to_of (h.le b p hb) (Nat.lt_of_lt_of_le (hR0.rng b p hb).2 h0n)
  have hstep : Step m0 (S 0) w0 (m.to (S l.length).nx) (S l.length) w := by
    refine ⟨hle, h0n, fun b p hb hlt => h.newd b p (Map.to_some hb).1 hlt, h.size, h.os, h.tape, h.output, h.frame, ?_, fun b p hb hlt => h.rngm b p (Map.to_some hb).1 hlt⟩
    rintro k hk ⟨b, p, ob, hb, ho, htn, rfl⟩
    obtain ⟨hb, hbl⟩ := Map.to_some hb
    by_cases e : b < (S J).nx
    · exact h.turnJ b p ob hb e (by rw [← ht.keeps hJl (Nat.le_refl _) hno b e]; exact ho) htn hk
    · have := h.newA b p hb (by omega)
      omega
  refine ⟨⟨fun t v hv => ?_, hR, by rw [h.sz]; exact hnt, by rw [h.defers]; exact hmk.step hstep, Nat.le_trans hlow h.size⟩, hstep⟩
  rcases ht.env_get l.length (Nat.le_refl _) t v hv with ⟨j, u, h1, h2, h3, rfl⟩ | ⟨h1, h2⟩
  · obtain ⟨v', g1, g2⟩ := h.slots j u t h2 h3 (hall j h1)
    exact ⟨v', g1, g2.mono (Map.to_mono m.le_refl (ht.nx_mono (by omega) (Nat.le_refl _)))⟩
  · obtain ⟨v', g1, g2⟩ := hE t v h2
    refine ⟨v', ?_, g2.mono hle⟩
    rw [h.rest t fun j u hj hd _ => h1 j u (List.getElem?_eq_some_iff.1 hj).1 hj hd]
    exact g1

def isDone (listed : Array Bool) (i : Nat) : Prop := listed[i]? = some true

/-- How many operations are not yet done. -/
def left (listed : Array Bool) : Nat := listed.toList.countP (· == false)

theorem left_set {listed : Array Bool} {i : Nat} (h : listed[i]? = some false) : left (listed.setIfInBounds i true) + 1 = left listed := by
  unfold left
  rw [Array.toList_setIfInBounds]
  have hl : listed.toList[i]? = some false := by simpa using h
  generalize listed.toList = L at hl
  clear h
  induction L generalizing i with
  | nil => simp at hl
  | cons b L ih =>
    cases i with
    | zero => simp at hl; subst hl; simp
    | succ i =>
      have := ih (i := i) (by simpa using hl)
      simp only [List.set_cons_succ, List.countP_cons]
      omega

set_option maxHeartbeats 1000000 in
theorem draw_all (hX : Good X T) (hS : SelfOk X self) (hF : Fen F inR) (hreg : Reg X nt ops l rds) (hshape : okShape ops = true) (ht : Trace T self l env s rs env' s' S E V) (hchk : chkRds rs s' l rds = true)
    (hE : EnvRel m0 env a0.tmps) (hR0 : Rl X m0 (S 0) w0) (hnt : a0.tmps.size = nt)
    (hQ : ∀ (a : Act) (w : World) (m : Map) (J : Nat) (done : Nat → Prop), (∀ i, done i → i < l.length) → (∀ i, i < l.length → done i) → Inv X l S V m0 w0 a0 done J m a w → Q .normal a w) :
    ∀ (fuel : Nat) (listed : Array Bool) (a : Act) (w : World) (m : Map) (J : Nat), listed.size = ops.size → left listed ≤ fuel → (∀ k j, isDone listed j → ((ahead ops).getD j 0).testBit k = true → isDone listed k) → Inv X l S V m0 w0 a0 (isDone listed) J m a w →
      wpAnyIn F n X.P .any ops Q fuel listed a w := by
  have lenops := hreg.len
  have lt_of : ∀ {listed : Array Bool}, listed.size = ops.size → ∀ i, isDone listed i → i < l.length := fun hsz i hd => by
    rw [lenops, ← hsz]
    exact (Array.getElem?_eq_some_iff.1 hd).1
  -- nothing is ready: all is done
  have stop : ∀ listed : Array Bool, listed.size = ops.size → Region.ready .any ops listed = [] → ∀ i, i < l.length → isDone listed i := fun listed hsz hr i => by
    induction i using Nat.strongRecOn with
    | _ i ih =>
      intro hi
      apply Classical.byContradiction
      intro hnd
      have hlt : i < ops.size := by omega
      have hlb : listed[i]? = some false := by
        have : listed[i]? = some (listed[i]'(by omega)) := Array.getElem?_eq_getElem _
        cases hb : listed[i]'(by omega) with
        | false => rw [this, hb]
        | true => exact absurd (by unfold isDone; rw [this, hb]) hnd
      have hin : i ∈ Region.ready .any ops listed := by
        unfold Region.ready
        refine List.mem_filter.2 ⟨List.mem_range.2 hlt, ?_⟩
        have ho : ops[i]? = some (ops[i]'hlt) := Array.getElem?_eq_getElem _
        have hb : listed.getD i true = false := by simp [Array.getD_eq_getD_getElem?, hlb]
        rw [ho, hb]
        simp only [Bool.not_false, Option.map_some, Option.getD_some, Bool.true_and]
        rw [← Array.all_toList]
        refine List.all_eq_true.2 fun e he => ?_
        cases hbe : Region.binds .any e with
        | false => rfl
        | true =>
          have hon := shape_back hshape ho e he hbe
          have := ih e.on hon (by omega)
          unfold isDone at this
          simp [Array.getD_eq_getD_getElem?, this]
      rw [hr] at hin
      cases hin
  intro fuel
  induction fuel with
  | zero =>
    intro listed a w m J hsz hleft hdown h
    have hall : ∀ i, i < l.length → isDone listed i := fun i hi => by
      have hlt : i < listed.size := by omega
      unfold left at hleft
      have hz : listed.toList.countP (· == false) = 0 := by omega
      have hb := List.countP_eq_zero.1 hz (listed[i]'hlt) (by simp)
      unfold isDone
      rw [Array.getElem?_eq_getElem hlt]
      cases hbv : listed[i]'hlt with
      | true => rfl
      | false => rw [hbv] at hb; simp at hb
    refine ⟨?_, hQ a w m J _ (lt_of hsz) hall h⟩
    unfold Region.ready
    refine List.filter_eq_nil_iff.2 fun i hi => ?_
    have := hall i (by rw [lenops]; exact List.mem_range.1 hi)
    unfold isDone at this
    simp [Array.getD_eq_getD_getElem?, this]
  | succ fuel ih =>
    intro listed a w m J hsz hleft hdown h
    refine ⟨fun hr => hQ a w m J _ (lt_of hsz) (stop listed hsz hr) h, fun i hi => ?_⟩
    unfold Region.ready at hi
    obtain ⟨hi1, hi2⟩ := List.mem_filter.1 hi
    have hlt : i < ops.size := List.mem_range.1 hi1
    have ho : ops[i]? = some (ops[i]'hlt) := Array.getElem?_eq_getElem _
    rw [ho] at hi2
    simp only [Bool.and_eq_true, Bool.not_eq_true', Option.map_some, Option.getD_some] at hi2
    have hlb : listed[i]? = some false := by
      have : listed[i]? = some (listed[i]'(by omega)) := Array.getElem?_eq_getElem _
      rw [this]
      have h2 := hi2.1
      simp only [Array.getD_eq_getD_getElem?, this, Option.getD_some] at h2
      rw [h2]
    have hnd : ¬ isDone listed i := fun hd => by unfold isDone at hd; rw [hlb] at hd; cases hd
    have hedge : ∀ e ∈ (ops[i]'hlt).after.toList, binds e = true → isDone listed e.on := fun e he hb => by
      have h2 := hi2.2
      rw [← Array.all_toList] at h2
      have := List.all_eq_true.1 h2 e he
      unfold binds at hb
      rw [hb] at this
      simp only [Bool.not_true, Bool.false_or] at this
      unfold isDone
      cases hl : listed[e.on]? with
      | none => simp [Array.getD_eq_getD_getElem?, hl] at this
      | some b => simp [Array.getD_eq_getD_getElem?, hl] at this; rw [this]
    have hrd : ∀ k, ((ahead ops).getD i 0).testBit k = true → isDone listed k := fun k hk => by
      obtain ⟨e, he, hb, hor⟩ := before_spec ops i _ ho k hk
      rcases hor with rfl | hor
      · exact hedge e he hb
      · exact hdown k e.on (hedge e he hb) hor
    obtain ⟨o, hol⟩ : ∃ o, l[i]? = some o := ⟨l[i]'(by omega), List.getElem?_eq_getElem _⟩
    have hfun : (fun j => isDone listed j ∨ j = i) = isDone (listed.setIfInBounds i true) := by
      funext j
      apply propext
      unfold isDone
      by_cases e : j = i
      · subst e
        have : j < listed.size := by omega
        simp [this]
      · rw [Array.getElem?_setIfInBounds_ne (Ne.symm e)]
        simp [e]
    refine draw_step hX hS hF hreg ht hchk h hE hR0 hnt (lt_of hsz) hdown hol hnd hrd fun J' m' a' w' hI => ?_
    rw [hfun] at hI
    refine ih _ a' w' m' J' (by simpa using hsz) (by have := left_set hlb; omega) ?_ hI
    intro k j hj hk
    rw [← hfun] at hj ⊢
    rcases hj with hj | rfl
    · exact .inl (hdown k j hj hk)
    · exact .inl (hrd k hk)

theorem draw_sound {s : IState} {w : World} {a : Act} {m : Map} (hX : Good X T) (hS : SelfOk X self) (hF : Fen F inR) {id : Nat} {β : Type} {Qr : β → Prop} {K : Kt β}
    (hok : okCode X.P X.G X.TA X.TK nt inR (.regD l rds) (.region id ops true) = true) (h : (xRegD T self l rds env s K).all Qr) (hst : St X nt B m env s a w)
    (hQ : ∀ env' s' a' w' m', (K .normal env' s').all Qr → St X nt B m' env' s' a' w' → Step m s w m' s' w' → Q .normal a' w') : (Code.region id ops true).wpIn F n X.P Q a w := by
  have hok' : (okOpers X.P X.G X.TA X.TK nt ops (l.map (·.1)) ops.toList && okPairs ops l rds && okShape ops) = true := hok
  simp only [Bool.and_eq_true] at hok'
  obtain ⟨⟨h1, h2⟩, h3⟩ := hok'
  obtain ⟨rs, env', s', S, E, V, ht, hk⟩ := runOpsD_trace l env s [] _ h
  simp only [List.append_nil, List.reverse_reverse] at hk
  have hk' : chkRds rs s' l rds = true ∧ (K .normal env' s').all Qr := by
    cases hc : chkRds rs s' l rds with
    | false => rw [hc] at hk; exact hk.elim
    | true => rw [hc] at hk; exact ⟨rfl, hk⟩
  have hreg := reg_of h1 h2 h3
  have hR0 : Rl X m (S 0) { w with drawn := w.drawn + 1 } := by rw [ht.s0]; exact hst.rl.drawn _
  refine wpIn_region_any hX.mixed ?_
  have hi0 : ∀ j, ¬ isDone (Array.replicate ops.size false) j := fun j hj => by
    unfold isDone at hj
    obtain ⟨h1, h2⟩ := Array.getElem?_eq_some_iff.1 hj
    simp at h2
  refine draw_all hX hS hF hreg h3 ht hk'.1 hst.env hR0 hst.sz ?_ ops.size (Array.replicate ops.size false) a _ m 0 (by simp) ?_ (fun k j hj => absurd hj (hi0 j)) ?_
  · intro a' w' m' J done hdl hall hI
    obtain ⟨g1, g2⟩ := hI.finish ht hst.env hR0 hdl hall hst.sz (hst.marks.step (Step.drawn m s w _)) hst.low
    rw [ht.sn, ht.en] at g1
    rw [ht.sn, ht.s0] at g2
    exact hQ env' s' a' w' _ hk'.2 g1 ((Step.drawn m s w _).trans g2)
  · unfold left
    exact Nat.le_trans List.countP_le_length (by simp)
  · have : isDone (Array.replicate ops.size false) = fun _ => False := funext fun j => propext ⟨fun h => hi0 j h, fun h => h.elim⟩
    rw [this]
    exact Inv.start ht hR0
end
end Go.Im

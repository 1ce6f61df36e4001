/- Memory on the ideal machine: arrays that grow. -/
import Derived.Test.YtojbkocmobkddaaGreatDoorImPC
set_option linter.all false
set_option maxRecDepth 100000
namespace Go.Im
theorem flat_length {α β : Type} (f : α → List β) (w : Nat) : ∀ l : List α, (∀ a ∈ l, (f a).length = w) → (l.flatMap f).length = l.length * w
 | [], _ => by simp
 | a :: l, h => by
  rw [List.flatMap_cons, List.length_append, h a (by simp), flat_length f w l (fun b hb => h b (by simp [hb])), List.length_cons, Nat.succ_mul]; omega
theorem flat_get {α β : Type} (f : α → List β) (w : Nat) : ∀ (l : List α) (j i : Nat) (a : α), (∀ a ∈ l, (f a).length = w) → l[j]? = some a → i < w → (l.flatMap f)[j * w + i]? = (f a)[i]?
 | [], j, i, a, _, h, _ => by simp at h
 | b :: l, 0, i, a, hw, h, hi => by
  simp at h; subst h
  rw [List.flatMap_cons, Nat.zero_mul, Nat.zero_add, List.getElem?_append_left (by rw [hw b (by simp)]; exact hi)]
 | b :: l, j + 1, i, a, hw, h, hi => by
  simp at h
  have hb := hw b (by simp)
  rw [List.flatMap_cons, List.getElem?_append_right (by rw [hb, Nat.succ_mul]; omega), hb, Nat.succ_mul, show j * w + w + i - w = j * w + i by omega]
  exact flat_get f w l j i a (fun c hc => hw c (by simp [hc])) h hi
theorem QK {α β : Type} (f : α → List β) (w : Nat) : ∀ (l : List α) (j i : Nat) (a a' : α) (v : β), (∀ a ∈ l, (f a).length = w) → l[j]? = some a → i < w → f a' = (f a).set i v → (l.flatMap f).set (j * w + i) v = (l.set j a').flatMap f
 | [], j, i, a, a', v, _, h, _, _ => by simp at h
 | b :: l, 0, i, a, a', v, hw, h, hi, he => by
  simp at h; subst h
  rw [List.set_cons_zero, List.flatMap_cons, List.flatMap_cons, Nat.zero_mul, Nat.zero_add, List.set_append_left _ _ (by rw [hw b (by simp)]; exact hi), he]
 | b :: l, j + 1, i, a, a', v, hw, h, hi, he => by
  simp at h
  have hb := hw b (by simp)
  rw [List.set_cons_succ, List.flatMap_cons, List.flatMap_cons, List.set_append_right _ _ (by rw [hb, Nat.succ_mul]; omega), hb, Nat.succ_mul, show j * w + w + i - w = j * w + i by omega]
  rw [QK f w l j i a a' v (fun c hc => hw c (by simp [hc])) h hi he]
theorem Nh {α β : Type} (f : α → List β) (w : Nat) : ∀ (l : List α) (k : Nat), (∀ a ∈ l, (f a).length = w) → (l.flatMap f).take (k * w) = (l.take k).flatMap f
 | [], k, _ => by simp
 | b :: l, 0, _ => by simp
 | b :: l, k + 1, hw => by
  have hb := hw b (by simp)
  rw [List.flatMap_cons, List.take_succ_cons, List.flatMap_cons, Nat.succ_mul, List.take_append, hb, show k * w + w - w = k * w by omega, List.take_of_length_le (by rw [hb]; omega), Nh f w l k (fun c hc => hw c (by simp [hc]))]
theorem UY {v : Value} (h : simple v = true) : cellsOf v = [v] := by cases v <;> first | rfl | (simp [simple] at h)
theorem MP {s : AA} {b : Nat} {c : List Value} {el : Nat} (h : s.get b = some (.cells c el true)) {o : Nat} {v : Value} (hv : simple v = true) (ho : o < c.length) :
 wSt s 1 v (.pointer (some ⟨b, o, none⟩)) = some (Bl, s.put b (.cells (c.set o v) el true)) := by
 have e := UY hv
 have := Fj (s := s) (b := b) (c := c) (el := el) h (o := o) (n := 1) (v := v) (by rw [e]; rfl) (by rw [e]; show cond (simple v) true false = true; rw [hv]; rfl) ho
 rw [e] at this
 rw [this, List.set_eq_take_append_cons_drop, if_pos ho]; rfl
def BX (s : AA) (base : Option Nat) (el w : Nat) (cs : List Value) (len : Nat) (v : Value) : Prop :=
 match base with
 | none => v = .slice none 0 0 ∧ len = 0 ∧ cs = []
 | some b => v = .slice (some ⟨b, 0, none⟩) len UNK ∧ b < s.nx ∧ ∃ full, s.get b = some (.cells full el true) ∧ full.take (len * w) = cs ∧ len * w ≤ full.length
section
variable {s : AA} {base : Option Nat} {el w len : Nat} {cs : List Value} {v : Value}
theorem BX.frame {s' : AA} (h : BX s base el w cs len v) (hn : s.nx ≤ s'.nx) (hg : ∀ b, base = some b → s'.get b = s.get b) : BX s' base el w cs len v := by
 cases base with
 | none => exact h
 | some b =>
  obtain ⟨h1, h2, full, h3, h4⟩ := h
  exact ⟨h1, by omega, full, (hg b rfl).trans h3, h4⟩
theorem BX.len_eq (h : BX s base el w cs len v) : CZ v = some (.int .i64 (len : Int)) := by
 cases base with
 | none => obtain ⟨rfl, rfl, _⟩ := h; rfl
 | some b => obtain ⟨rfl, _⟩ := h; rfl
theorem BX.simple (h : BX s base el w cs len v) : simple v = true := by
 cases base with
 | none => obtain ⟨rfl, _⟩ := h; rfl
 | some b => obtain ⟨rfl, _⟩ := h; rfl
theorem BX.Sz (h : BX s base el w cs len v) : cs.length = len * w := by
 cases base with
 | none => obtain ⟨_, rfl, rfl⟩ := h; simp
 | some b => obtain ⟨_, _, full, _, h1, h2⟩ := h; rw [← h1, List.length_take]; omega
theorem BX.get (h : BX s base el w cs len v) {i : Nat} {x : Value} (hx : cs[i]? = some x) : ∃ b, base = some b ∧ s.rd1 b i = some x := by
 cases base with
 | none => obtain ⟨_, _, rfl⟩ := h; simp at hx
 | some b =>
  obtain ⟨_, _, full, h1, h2, _⟩ := h
  refine ⟨b, rfl, ?_⟩
  rw [Ai h1]
  rw [← h2, List.getElem?_take] at hx
  split at hx
  · exact hx
  · cases hx
theorem BX.iad (h : BX s base el w cs len v) (j : Nat) (hj : j < len) (k : IntKind) : ∃ b, base = some b ∧ BR w v (.int k (j : Int)) = some (.pointer (some ⟨b, j * w, none⟩)) := by
 cases base with
 | none => obtain ⟨_, rfl, _⟩ := h; omega
 | some b =>
  obtain ⟨rfl, _⟩ := h
  exact ⟨b, rfl, by rw [Gh _ _ _ _ _ _ _ hj, Nat.zero_add]⟩
theorem BX.set (h : BX s base el w cs len v) {i : Nat} (hi : i < len * w) {x : Value} (hx : Go.Im.simple x = true) : ∃ b full, base = some b ∧ s.get b = some (.cells full el true) ∧ wSt s 1 x (.pointer (some ⟨b, i, none⟩)) = some (Bl, s.put b (.cells (full.set i x) el true)) ∧
 BX (s.put b (.cells (full.set i x) el true)) base el w (cs.set i x) len v := by
 cases base with
 | none => obtain ⟨_, rfl, _⟩ := h; omega
 | some b =>
  obtain ⟨rfl, h0, full, h1, h2, h3⟩ := h
  refine ⟨b, full, rfl, h1, MP h1 hx (by omega), rfl, h0, _, by rw [AA.get_put, if_pos rfl], ?_, by simpa using h3⟩
  rw [← h2, List.take_set]
theorem BX.trunc (h : BX s base el w cs len v) (hw : 1 ≤ w) {k : Nat} (hk : k ≤ len) (kk : IntKind) : ∃ v', rSl s el w none (some (.int kk (k : Int))) none v = some v' ∧ BX s base el w (cs.take (k * w)) k v' := by
 cases base with
 | none =>
  obtain ⟨rfl, rfl, rfl⟩ := h
  obtain rfl : k = 0 := by omega
  exact ⟨.slice none 0 0, rfl, rfl, rfl, by simp⟩
 | some b =>
  obtain ⟨rfl, h0, full, h1, h2, h3⟩ := h
  have hkw : k * w ≤ len * w := Nat.mul_le_mul_right _ hk
  refine ⟨.slice (some ⟨b, 0, none⟩) k UNK, ?_, rfl, h0, full, h1, by rw [← h2, List.take_take, Nat.min_eq_left hkw], by omega⟩
  have u1 : Nat.blt UNK UNK = false := by decide
  have u2 : Nat.beq UNK UNE = false := by decide
  have u0 : rSl s el w none (some (.int kk (k : Int))) none (.slice (some ⟨b, 0, none⟩) len UNK) = cond (Nat.blt UNK UNK) (Ho ⟨b, 0, none⟩ w len UNK none (some (.int kk (k : Int))) none) (cond (Nat.beq UNK UNE) none (RH ⟨b, 0, none⟩ el w len none (some (.int kk (k : Int))) none (s.get b))) := rfl
  have u3 : RH ⟨b, 0, none⟩ el w len none (some (.int kk (k : Int))) none (some (.cells full el true)) = cond (Nat.beq el el) (Om ⟨b, 0, none⟩ w len full.length none (some (.int kk (k : Int))) none) none := rfl
  have u4 : Om ⟨b, 0, none⟩ w len full.length none (some (.int kk (k : Int))) none = ob (bound len (Nat.div (Nat.sub full.length 0) w) (some (.int kk (k : Int)))) fun h' => ob (bound 0 h' none) fun l' => cond (Nat.beq l' 0) (some (.slice (some ⟨b, 0, none⟩) h' UNK)) (cond (Nat.blt (Nat.add 0 (Nat.mul l' w)) full.length) (some (.slice (some (Fb ⟨b, 0, none⟩ (Nat.mul l' w))) (Nat.sub h' l') UNK))
   (cond (Nat.beq h' l') (some (.slice (some ⟨0, 0, none⟩) 0 UNE)) none)) := rfl
  rw [u0, u1, u2, h1]
  simp only [cond_false]
  rw [u3, Ej rfl, cond_true, u4]
  have hb : k ≤ Nat.div (Nat.sub full.length 0) w := by
   show k ≤ (full.length - 0) / w
   rw [Nat.le_div_iff_mul_le (by omega)]; omega
  rw [LG hb]
  rfl
theorem BX.push (h : BX s base el w cs len v) (hw : 1 ≤ w) {by_ : Nat} (hby : (len + 1) * by_ ≤ 140737488355328) (hlen : len + 1 < UNK) {news : List Value} (hn : news.length = w) (hs : Bh news = true) {x : Value} (hx : DL s w x = some news) :
 ∃ v' s' base', FC s el w by_ v x = some (v', s') ∧ BX s' base' el w (cs ++ news) (len + 1) v' ∧ (base' = base ∨ base' = some s.nx) ∧ s.nx ≤ s'.nx ∧ (∀ i, i < s.nx → base ≠ some i → s'.get i = s.get i) := by
 have hd : Nat.div news.length w = 1 := by rw [hn]; exact Nat.div_self (by omega)
 have hgo : ∀ (bs : Option Addr) (l cap : Nat), l = len → Dw s el w by_ news (.slice bs l cap) = Hq s el w len cap 1 (len + 1) news bs := by
  intro bs l cap e
  subst e
  show cond (Nat.beq w 0) none (cond (Nat.ble (Nat.mul (Nat.add l (Nat.div news.length w)) by_) 140737488355328 && Nat.blt (Nat.add l (Nat.div news.length w)) UNK) (Hq s el w l cap (Nat.div news.length w) (Nat.add l (Nat.div news.length w)) news bs) none) = _
  rw [Hr (by omega), hd]
  have a1 : Nat.ble (Nat.mul (Nat.add l 1) by_) 140737488355328 = true := Ae.2 hby
  have a2 : Nat.blt (Nat.add l 1) UNK = true := Bq.2 hlen
  rw [a1, a2]; rfl
 have happ : FC s el w by_ v x = Dw s el w by_ news v := by
  show ob (DL s w x) (fun news => Dw s el w by_ news v) = _
  rw [hx]; rfl
 rw [happ]
 cases base with
 | none =>
  obtain ⟨rfl, rfl, rfl⟩ := h
  rw [hgo none 0 0 rfl]
  refine ⟨.slice (some ⟨s.nx, 0, none⟩) 1 UNK, s.new (.cells news el true), some s.nx, rfl, ⟨rfl, by simp, news, by rw [AA.Ak, if_pos rfl], ?_, by rw [hn]; omega⟩, .inr rfl, by simp, fun i hi _ => by rw [AA.Ak, if_neg (by omega)]⟩
  rw [List.take_of_length_le (by rw [hn]; omega)]; rfl
 | some b =>
  have hcl := h.Sz
  obtain ⟨rfl, h0, full, h1, h2, h3⟩ := h
  rw [hgo (some ⟨b, 0, none⟩) len UNK rfl]
  have e1 : Hq s el w len UNK 1 (len + 1) news (some ⟨b, 0, none⟩) = ND s ⟨b, 0, none⟩ el w len (len + 1) news (s.get b) := rfl
  rw [e1, h1]
  show ∃ v' s' base', cond (Nat.beq el el) (cond (Nat.ble (Nat.add 0 (Nat.mul (len + 1) w)) full.length) (KQ s ⟨b, 0, none⟩ w len UNK (len + 1) news) (cond (Bh news) (ob (sub full 0 (Nat.mul len w)) fun old => some (Dt (s.put b .dead) el (len + 1) old news)) none)) none = some (v', s') ∧ _
  rw [Ej rfl, hs]
  by_cases hroom : (len + 1) * w ≤ full.length
  · have a1 : Nat.ble (Nat.add 0 (Nat.mul (len + 1) w)) full.length = true := Ae.2 (by show 0 + (len + 1) * w ≤ _; omega)
    rw [a1]
    have hwr := Ye (s := s) (b := b) (c := full) (el := el) h1 (o := len * w) (vs := news) hs (by rw [hn]; rw [Nat.succ_mul] at hroom; exact hroom)
    have a2 : KQ s ⟨b, 0, none⟩ w len UNK (len + 1) news = some (.slice (some ⟨b, 0, none⟩) (len + 1) UNK, s.put b (.cells (full.take (len * w) ++ (news ++ full.drop (len * w + news.length))) el true)) := by
     show ob (s.wr b (Nat.add 0 (Nat.mul len w)) news) _ = _
     have : Nat.add 0 (Nat.mul len w) = len * w := by show 0 + len * w = _; omega
     rw [this, hwr]; rfl
    refine ⟨_, _, some b, a2, ⟨rfl, h0, _, by rw [AA.get_put, if_pos rfl], ?_, ?_⟩, .inl rfl, Nat.le_refl _, fun i hi hb => by rw [AA.get_put, if_neg (fun e => hb (by rw [e]))]⟩
    · rw [h2, ← List.append_assoc, List.take_left' (by rw [List.length_append, hcl, hn, Nat.succ_mul])]
    · rw [h2, List.length_append, List.length_append, hcl, hn, Nat.succ_mul]; omega
  · have a1 : Nat.ble (Nat.add 0 (Nat.mul (len + 1) w)) full.length = false := by
     cases hb : Nat.ble (Nat.add 0 (Nat.mul (len + 1) w)) full.length with
     | false => rfl
     | true =>
      have := Ae.1 hb
      have : 0 + (len + 1) * w ≤ full.length := this
      omega
    rw [a1]
    have a2 : sub full 0 (Nat.mul len w) = some cs := by
     show cond (Nat.ble (Nat.add 0 (Nat.mul len w)) full.length) (some ((full.drop 0).take (Nat.mul len w))) none = _
     have : Nat.ble (Nat.add 0 (Nat.mul len w)) full.length = true := Ae.2 (by show 0 + len * w ≤ _; omega)
     rw [this, List.drop_zero]
     exact congrArg some h2
    rw [a2]
    refine ⟨.slice (some ⟨s.nx, 0, none⟩) (len + 1) UNK, (s.put b .dead).new (.cells (cs ++ news) el true), some s.nx, rfl, ⟨rfl, by simp, cs ++ news, by rw [AA.Ak]; simp, ?_, ?_⟩, .inr rfl, by simp, fun i hi hb => ?_⟩
    · rw [List.take_of_length_le (by rw [List.length_append, hcl, hn, Nat.succ_mul]; omega)]
    · rw [List.length_append, hcl, hn, Nat.succ_mul]; omega
    · rw [AA.Ak, if_neg (by simp; omega), AA.get_put, if_neg (fun e => hb (by rw [e]))]
end
end Go.Im
set_option maxRecDepth 100000
namespace Go.Im
structure CG where
 name : List UInt8
 parts : List Nat
 card : List Int
 told : List Bool
def CG.ok (c : CG) : Prop := c.parts.length = 4 ∧ c.card.length = 8 ∧ c.told.length = 8
def iV (n : Int) : Value := .int .i64 n
def BQ (c : CG) : List Value := strOf c.name :: (c.parts.map (fun n : Nat => iV (n : Int)) ++ (c.card.map iV ++ c.told.map Value.bool))
theorem D8 {c : CG} (h : c.ok) : (BQ c).length = 21 := by
 obtain ⟨h1, h2, h3⟩ := h
 simp [BQ, h1, h2, h3]
def EP (p : Int × Int) : List Value := [iV p.1, iV p.2]
structure Off where
 comps : List CG
 parts : List (Int × Int)
structure Ah (s : AA) (o : Nat) (cb pb : Option Nat) (O : Off) : Prop where
 lt : o < s.nx
 ex : ∃ cv pv, s.get o = some (.cells [cv, pv] 95 true) ∧ BX s cb 120 21 (O.comps.flatMap BQ) O.comps.length cv ∧ BX s pb 116 2 (O.parts.flatMap EP) O.parts.length pv
 ok : ∀ c ∈ O.comps, c.ok
 co : cb ≠ some o
 po : pb ≠ some o
 cp : ∀ b, cb = some b → pb ≠ some b
theorem Ah.frame {s s' : AA} {o : Nat} {cb pb : Option Nat} {O : Off} (h : Ah s o cb pb O) (hn : s.nx ≤ s'.nx) (hg : ∀ b, (b = o ∨ cb = some b ∨ pb = some b) → s'.get b = s.get b) : Ah s' o cb pb O := by
 obtain ⟨cv, pv, h1, h2, h3⟩ := h.ex
 exact ⟨Nat.lt_of_lt_of_le h.lt hn, ⟨cv, pv, (hg o (.inl rfl)).trans h1, h2.frame hn fun b e => hg b (.inr (.inl e)), h3.frame hn fun b e => hg b (.inr (.inr e))⟩, h.ok, h.co, h.po, h.cp⟩
theorem BX.lt {s : AA} {base : Option Nat} {el w len : Nat} {cs : List Value} {v : Value} (h : BX s base el w cs len v) {b : Nat} (e : base = some b) : b < s.nx := by
 subst e; exact h.2.1
theorem Ah.ext {s s' : AA} {o : Nat} {cb pb : Option Nat} {O : Off} (h : Ah s o cb pb O) (e : Ext s s') : Ah s' o cb pb O := by
 obtain ⟨cv, pv, h1, h2, h3⟩ := h.ex
 refine h.frame e.nx fun b hb => e.get b ?_
 rcases hb with rfl | hb | hb
 · exact h.lt
 · exact h2.lt hb
 · exact h3.lt hb
def BZ (x : List UInt8) : List CG → Nat → Int
 | [], _ => -1
 | c :: l, i => if c.name = x then (i : Int) else BZ x l (i + 1)
theorem Eh {s : AA} {b o n : Nat} {l : List Value} (h : s.rd b o n = some l) : DY s n (.pointer (some ⟨b, o, none⟩)) = some (.agg ⟨l⟩) := by
 show ob (s.rd b o n) _ = _
 rw [h]; rfl
theorem BX.rd {s : AA} {b el w len : Nat} {cs : List Value} {v : Value} (h : BX s (some b) el w cs len v) {o n : Nat} (hl : o + n ≤ len * w) : s.rd b o n = some ((cs.drop o).take n) := by
 obtain ⟨_, _, full, h1, h2, h3⟩ := h
 rw [ED h1 (by omega), ← h2, List.drop_take, List.take_take, Nat.min_eq_left (by omega)]
theorem ER {α β : Type} (f : α → List β) (w : Nat) : ∀ (l : List α) (j : Nat) (a : α), (∀ a ∈ l, (f a).length = w) → l[j]? = some a → ((l.flatMap f).drop (j * w)).take w = f a
 | [], j, a, _, h => by simp at h
 | b :: l, 0, a, hw, h => by
  simp at h; subst h
  rw [List.flatMap_cons, Nat.zero_mul, List.drop_zero, List.take_left' (hw b (by simp))]
 | b :: l, j + 1, a, hw, h => by
  simp at h
  have hb := hw b (by simp)
  have e : (j + 1) * w = (f b).length + j * w := by rw [Nat.succ_mul, hb]; omega
  rw [List.flatMap_cons, e, ← List.drop_drop, List.drop_left]
  exact ER f w l j a (fun c hc => hw c (by simp [hc])) h
theorem k124 (n : Nat) (hn : 1 ≤ n) (c : CG) (x : List UInt8) (s : AA) (p : Nat) (hp : s.get p = some (.cells [strOf x] 9 true)) (hlt : p < s.nx) : Gives (AU AL Aj n (.fn 124) [.agg ⟨BQ c⟩, .pointer (some ⟨p, 0, none⟩)] s) s (.bool (decide (c.name = x))) := by
 obtain ⟨m, rfl, _⟩ := Ac hn
 refine ⟨s.new (.cells (BQ c) 120 true), ?_, (Ext.refl s).new _⟩
 rw [Ap 124 c124 rfl, mP]
 have e : cellsOf (.agg ⟨BQ c⟩) = BQ c := rfl
 have r1 : (s.new (.cells (BQ c) 120 true)).rd1 s.nx 0 = some (strOf c.name) := by rw [Ai (by rw [AA.Ak, if_pos rfl])]; rfl
 have r2 : (s.new (.cells (BQ c) 120 true)).rd1 p 0 = some (strOf x) := by rw [Ai (by rw [AA.Ak, if_neg (by omega)]; exact hp)]; rfl
 have q : BG .eql (strOf c.name) (strOf x) = some (.bool (decide (c.name = x))) := by unfold strOf; rw [EO]; rfl
 simp [e, r1, r2, q]
theorem aH (n : Nat) (hn : 1 ≤ n) (C : List CG) (hC : ∀ c ∈ C, c.ok) (hlen : C.length < 1000000000) (x : List UInt8) (p : Nat) (v : Value) (cb : Option Nat) : ∀ (k q f : Nat) (s : AA), C.length - q ≤ k → k < f → q ≤ C.length →
 BX s cb 120 21 (C.flatMap BQ) C.length v → s.get p = some (.cells [strOf x] 9 true) → p < s.nx →
 Gives (MK Tc (AU AL Aj n) n f v (.func (.func 124) ⟨[]⟩ ⟨[.pointer (some ⟨p, 0, none⟩)]⟩) (.int .i64 (C.length : Int)) (.int .i64 (q : Int)) s) s (.int .i64 (BZ x (C.drop q) q)) := by
 intro k
 induction k with
 | zero =>
  intro q f s hk hf hq hA hp hlt
  obtain ⟨f, rfl, _⟩ := Ac hf
  refine ⟨s, ?_, .refl s⟩
  rw [LK Tc rfl, List.drop_eq_nil_of_le (by omega)]
  have : ¬ (q : Int) < (C.length : Int) := by omega
  simp [this, BZ]
 | succ k ih =>
  intro q f s hk hf hq hA hp hlt
  obtain ⟨f, rfl, _⟩ := Ac hf
  by_cases hqlt : q < C.length
  · obtain ⟨c, hc⟩ : ∃ c, C[q]? = some c := ⟨_, List.getElem?_eq_getElem hqlt⟩
    have hdrop : C.drop q = c :: C.drop (q + 1) := by
     rw [List.drop_eq_getElem_cons hqlt]
     congr 1
     rw [List.getElem?_eq_getElem hqlt] at hc
     exact Option.some.inj hc
    obtain ⟨b, rfl, hi⟩ := hA.iad q hqlt .i64
    have hrd : s.rd b (q * 21) 21 = some (BQ c) := by
     rw [hA.rd (by have : (q + 1) * 21 ≤ C.length * 21 := Nat.mul_le_mul_right _ hqlt; omega), ER BQ 21 C q c (fun a ha => D8 (hC a ha)) hc]
    obtain ⟨s1, d1, x1⟩ := k124 n hn c x s p hp hlt
    have d1' : E8 (AU AL Aj n) [.agg ⟨BQ c⟩] s (.func (.func 124) ⟨[]⟩ ⟨[.pointer (some ⟨p, 0, none⟩)]⟩) = .ok (.bool (decide (c.name = x)), s1) := by simpa using d1
    have h0 : (q : Int) < (C.length : Int) := by omega
    rw [LK Tc rfl, hdrop]
    by_cases he : c.name = x
    · refine ⟨s1, ?_, x1⟩
      rw [decide_eq_true he] at d1'
      simp only [BP, h0, decide_true, cond_true, QB Tc rfl, hi, AY, Aq, bind_ok, Eh hrd, d1', Af]
      simp [BZ, he]
    · have hw : Az .i64 (Int.add (q : Int) 1) = ((q + 1 : Nat) : Int) := by rw [Eb, wrap64 (by omega)]; omega
      obtain ⟨s2, d2, x2⟩ := ih (q + 1) f s1 (by omega) (by omega) (by omega) (hA.frame x1.nx fun b' e => x1.get b' (hA.lt e)) ((x1.get p hlt).trans hp) (Nat.lt_of_lt_of_le hlt x1.nx)
      refine ⟨s2, ?_, x1.trans x2⟩
      rw [decide_eq_false he] at d1'
      simp only [BP, h0, decide_true, cond_true, QB Tc rfl, hi, AY, Aq, bind_ok, Eh hrd, d1', Af, cond_false, hw]
      simpa [BZ, he] using d2
  · refine ⟨s, ?_, .refl s⟩
    rw [LK Tc rfl, List.drop_eq_nil_of_le (by omega)]
    have : ¬ (q : Int) < (C.length : Int) := by omega
    simp [this, BZ]
theorem k93 (n : Nat) (s : AA) (o : Nat) (cb pb : Option Nat) (O : Off) (h : Ah s o cb pb O) (hn : O.comps.length + 5 ≤ n) (hlen : O.comps.length < 1000000000) (x : List UInt8) :
 Gives (AU AL Aj n (.fn 93) [.pointer (some ⟨o, 0, none⟩), strOf x] s) s (.int .i64 (BZ x O.comps 0)) := by
 obtain ⟨n, rfl⟩ : ∃ m, n = m + 2 := ⟨n - 2, by omega⟩
 have x0 : Ext s (s.new (.cells [strOf x] 9 true)) := (Ext.refl s).new _
 have h' := h.ext x0
 obtain ⟨cv, pv, h1, h2, h3⟩ := h'.ex
 obtain ⟨s1, d1, x1⟩ := aH n (by omega) O.comps h.ok hlen x s.nx cv cb O.comps.length 0 n _ (by omega) (by omega) (by omega) h2 (by rw [AA.Ak, if_pos rfl]) (by simp)
 refine ⟨s1, ?_, x0.trans x1⟩
 have ro : (s.new (.cells [strOf x] 9 true)).rd1 o 0 = some cv := by rw [Ai h1]; rfl
 have e : cellsOf (.string (ofL x)) = [strOf x] := rfl
 rw [show n + 2 = (n + 1) + 1 from rfl, Ap 93 c93 rfl]
 show EL AL _ _ c93 [.pointer (some ⟨o, 0, none⟩), .string (ofL x)] s = _
 rw [f93_eq, e]
 simp only [Es, AY, Aq, bind_ok, DN, CO, Nat.zero_add, ro, Iq]
 rw [Ap 123 OU rfl, mO, h2.len_eq]
 simp only [List.drop_zero] at d1
 simp only [AY, Aq, bind_ok]
 have d1 : MK Tc (AU AL Aj n) n n cv (.func (.func 124) ⟨[]⟩ ⟨[.pointer (some ⟨s.nx, 0, none⟩)]⟩) (.int .i64 (O.comps.length : Int)) (.int .i64 0) (s.new (.cells [strOf x] 9 true)) = .ok (.int .i64 (BZ x O.comps 0), s1) := d1
 rw [d1]
 rfl
end Go.Im
set_option maxRecDepth 100000
namespace Go.Im
theorem BK {α : Type} {l : List α} {i : Nat} {x : α} (h : l[i]? = some x) : i < l.length := (List.getElem?_eq_some_iff.1 h).1
structure Fr (s s' : AA) (F : Nat → Prop) : Prop where
 nx : s.nx ≤ s'.nx
 get : ∀ b, b < s.nx → ¬ F b → s'.get b = s.get b
theorem Fr.refl (s : AA) (F : Nat → Prop) : Fr s s F := ⟨Nat.le_refl _, fun _ _ _ => rfl⟩
theorem Fr.of_ext {s s' : AA} (h : Ext s s') (F : Nat → Prop) : Fr s s' F := ⟨h.nx, fun b hb _ => h.get b hb⟩
theorem Fr.trans {a b c : AA} {F G : Nat → Prop} (h : Fr a b F) (k : Fr b c G) (hG : ∀ i, i < a.nx → G i → F i) : Fr a c F := ⟨Nat.le_trans h.nx k.nx, fun i hi hF => (k.get i (Nat.lt_of_lt_of_le hi h.nx) fun hg => hF (hG i hi hg)).trans (h.get i hi hF)⟩
theorem Fr.mono {s s' : AA} {F G : Nat → Prop} (h : Fr s s' F) (hG : ∀ i, F i → G i) : Fr s s' G := ⟨h.nx, fun b hb hg => h.get b hb fun hf => hg (hG b hf)⟩
theorem Fr.put {s : AA} {b : Nat} {o : CX} {F : Nat → Prop} (hF : F b) : Fr s (s.put b o) F := ⟨Nat.le_refl _, fun i _ hi => by rw [AA.get_put, if_neg (fun e => hi (by rw [e]; exact hF))]⟩
def E5 (o : Nat) (cb pb : Option Nat) (b : Nat) : Prop := b = o ∨ cb = some b ∨ pb = some b
@[simp] theorem FP (len n b o i : Nat) (k : IntKind) (h : i < len) : CY len n (.pointer (some ⟨b, o, none⟩)) (.int k (i : Int)) = some (.pointer (some ⟨b, o + i * n, none⟩)) := by
 show cond (Nat.blt i len) (some (Value.pointer (some (Fb ⟨b, o, none⟩ (Nat.mul i n))))) none = _
 rw [Bq.2 h]; rfl
section
variable {s : AA} {o : Nat} {cb pb : Option Nat} {O : Off}
theorem Ah.sub (h : Ah s o cb pb O) {b : Nat} (hb : E5 o cb pb b) : b < s.nx := by
 obtain ⟨cv, pv, h1, h2, h3⟩ := h.ex
 rcases hb with rfl | hb | hb
 · exact h.lt
 · exact h2.lt hb
 · exact h3.lt hb
theorem Ah.fr {s' : AA} (h : Ah s o cb pb O) {F : Nat → Prop} (k : Fr s s' F) (hF : ∀ b, E5 o cb pb b → ¬ F b) : Ah s' o cb pb O :=
 h.frame k.nx fun b hb => k.get b (h.sub hb) (hF b hb)
theorem Ah.Yf (h : Ah s o cb pb O) {j i : Nat} {c c' : CG} {x : Value} (hc : O.comps[j]? = some c) (hi : i < 21) (hx : simple x = true) (hc' : c'.ok) (he : BQ c' = (BQ c).set i x) :
 ∃ b s', cb = some b ∧ wSt s 1 x (.pointer (some ⟨b, j * 21 + i, none⟩)) = some (Bl, s') ∧ Ah s' o cb pb ⟨O.comps.set j c', O.parts⟩ ∧ Fr s s' (E5 o cb pb) ∧ s'.nx = s.nx ∧ (∀ k, k ≠ b → s'.get k = s.get k) := by
 obtain ⟨cv, pv, h1, h2, h3⟩ := h.ex
 have hj := BK hc
 have hlt : j * 21 + i < O.comps.length * 21 := by have : (j + 1) * 21 ≤ O.comps.length * 21 := Nat.mul_le_mul_right _ hj; omega
 obtain ⟨b, full, hb, _, hw, hA⟩ := h2.set hlt hx
 refine ⟨b, _, hb, hw, ⟨h.lt, ⟨cv, pv, ?_, ?_, ?_⟩, ?_, h.co, h.po, h.cp⟩, .put (.inr (.inl hb)), rfl, fun k hk => by rw [AA.get_put, if_neg hk]⟩
 · rw [AA.get_put, if_neg (fun e => h.co (by rw [hb, e]))]; exact h1
 · rw [QK BQ 21 O.comps j i c c' x (fun a ha => D8 (h.ok a ha)) hc hi he] at hA
   simpa using hA
 · exact h3.frame (Nat.le_refl _) fun b' e => by rw [AA.get_put, if_neg (fun e' => h.cp b hb (by rw [e, e']))]
 · intro a ha
   rcases List.mem_or_eq_of_mem_set ha with ha | rfl
   · exact h.ok a ha
   · exact hc'
theorem Ah.setPrt (h : Ah s o cb pb O) {j i : Nat} {p p' : Int × Int} {x : Value} (hp : O.parts[j]? = some p) (hi : i < 2) (hx : simple x = true) (he : EP p' = (EP p).set i x) :
 ∃ b s', pb = some b ∧ wSt s 1 x (.pointer (some ⟨b, j * 2 + i, none⟩)) = some (Bl, s') ∧ Ah s' o cb pb ⟨O.comps, O.parts.set j p'⟩ ∧ Fr s s' (E5 o cb pb) ∧ s'.nx = s.nx ∧ (∀ k, k ≠ b → s'.get k = s.get k) := by
 obtain ⟨cv, pv, h1, h2, h3⟩ := h.ex
 have hj := BK hp
 have hlt : j * 2 + i < O.parts.length * 2 := by omega
 obtain ⟨b, full, hb, _, hw, hA⟩ := h3.set hlt hx
 refine ⟨b, _, hb, hw, ⟨h.lt, ⟨cv, pv, ?_, ?_, ?_⟩, h.ok, h.co, h.po, h.cp⟩, .put (.inr (.inr hb)), rfl, fun k hk => by rw [AA.get_put, if_neg hk]⟩
 · rw [AA.get_put, if_neg (fun e => h.po (by rw [hb, e]))]; exact h1
 · exact h2.frame (Nat.le_refl _) fun b' e => by rw [AA.get_put, if_neg (fun e' => h.cp b' e (by rw [hb, e']))]
 · rw [QK EP 2 O.parts j i p p' x (fun a _ => rfl) hp hi he] at hA
   simpa using hA
theorem Ah.slices (h : Ah s o cb pb O) : ∃ cv pv, s.rd1 o 0 = some cv ∧ s.rd1 o 1 = some pv ∧ BX s cb 120 21 (O.comps.flatMap BQ) O.comps.length cv ∧ BX s pb 116 2 (O.parts.flatMap EP) O.parts.length pv := by
 obtain ⟨cv, pv, h1, h2, h3⟩ := h.ex
 exact ⟨cv, pv, by rw [Ai h1]; rfl, by rw [Ai h1]; rfl, h2, h3⟩
theorem Ah.rdComp (h : Ah s o cb pb O) {j i : Nat} {c : CG} {x : Value} (hc : O.comps[j]? = some c) (hi : i < 21) (hx : (BQ c)[i]? = some x) : ∃ b, cb = some b ∧ s.rd1 b (j * 21 + i) = some x := by
 obtain ⟨cv, pv, _, _, h2, _⟩ := h.slices
 exact h2.get (by rw [flat_get BQ 21 O.comps j i c (fun a ha => D8 (h.ok a ha)) hc hi, hx])
theorem Ah.rdPrt (h : Ah s o cb pb O) {j i : Nat} {p : Int × Int} {x : Value} (hp : O.parts[j]? = some p) (hi : i < 2) (hx : (EP p)[i]? = some x) : ∃ b, pb = some b ∧ s.rd1 b (j * 2 + i) = some x := by
 obtain ⟨cv, pv, _, _, _, h3⟩ := h.slices
 exact h3.get (by rw [flat_get EP 2 O.parts j i p (fun a _ => rfl) hp hi, hx])
theorem Ah.setPv (h : Ah s o cb pb O) {pb' : Option Nat} {P' : List (Int × Int)} {pv' : Value} (hA : BX s pb' 116 2 (P'.flatMap EP) P'.length pv') (hpo : pb' ≠ some o) (hcp : ∀ b, cb = some b → pb' ≠ some b) :
 ∃ s', wSt s 1 pv' (.pointer (some ⟨o, 1, none⟩)) = some (Bl, s') ∧ Ah s' o cb pb' ⟨O.comps, P'⟩ ∧ (∀ k, k ≠ o → s'.get k = s.get k) ∧ s'.nx = s.nx := by
 obtain ⟨cv, pv, h1, h2, h3⟩ := h.ex
 refine ⟨_, MP h1 hA.simple (by simp), ⟨h.lt, ⟨cv, pv', by rw [AA.get_put, if_pos rfl]; rfl, ?_, ?_⟩, h.ok, h.co, hpo, hcp⟩, fun k hk => by rw [AA.get_put, if_neg hk], rfl⟩
 · exact h2.frame (Nat.le_refl _) fun b e => by rw [AA.get_put, if_neg (fun e' => h.co (by rw [e, e']))]
 · exact hA.frame (Nat.le_refl _) fun b e => by rw [AA.get_put, if_neg (fun e' => hpo (by rw [e, e']))]
theorem Ah.setCv (h : Ah s o cb pb O) {cb' : Option Nat} {C' : List CG} {cv' : Value} (hA : BX s cb' 120 21 (C'.flatMap BQ) C'.length cv') (hok : ∀ c ∈ C', c.ok) (hco : cb' ≠ some o) (hcp : ∀ b, cb' = some b → pb ≠ some b) :
 ∃ s', wSt s 1 cv' (.pointer (some ⟨o, 0, none⟩)) = some (Bl, s') ∧ Ah s' o cb' pb ⟨C', O.parts⟩ ∧ (∀ k, k ≠ o → s'.get k = s.get k) ∧ s'.nx = s.nx := by
 obtain ⟨cv, pv, h1, h2, h3⟩ := h.ex
 refine ⟨_, MP h1 hA.simple (by simp), ⟨h.lt, ⟨cv', pv, by rw [AA.get_put, if_pos rfl]; rfl, ?_, ?_⟩, hok, hco, h.po, hcp⟩, fun k hk => by rw [AA.get_put, if_neg hk], rfl⟩
 · exact hA.frame (Nat.le_refl _) fun b e => by rw [AA.get_put, if_neg (fun e' => hco (by rw [e, e']))]
 · exact h3.frame (Nat.le_refl _) fun b e => by rw [AA.get_put, if_neg (fun e' => h.po (by rw [e, e']))]
end
structure FQ (s s' : AA) (o : Nat) (cb pb : Option Nat) (O' : Off) : Prop where
 ex : ∃ cb' pb', Ah s' o cb' pb' O' ∧ (∀ b, E5 o cb' pb' b → E5 o cb pb b ∨ s.nx ≤ b)
 fr : Fr s s' (E5 o cb pb)
theorem FQ.trans {a b c : AA} {o : Nat} {cb pb : Option Nat} {O1 O2 : Off} (h : FQ a b o cb pb O1) (k : ∀ cb' pb', Ah b o cb' pb' O1 → FQ b c o cb' pb' O2) : FQ a c o cb pb O2 := by
 obtain ⟨cb', pb', h1, h2⟩ := h.ex
 have k1 := k cb' pb' h1
 obtain ⟨cb'', pb'', h3, h4⟩ := k1.ex
 refine ⟨⟨cb'', pb'', h3, fun i hi => ?_⟩, h.fr.trans k1.fr fun i hi hF => ?_⟩
 · rcases h4 i hi with h5 | h5
   · exact h2 i h5
   · exact .inr (Nat.le_trans h.fr.nx h5)
 · rcases h2 i hF with h5 | h5
   · exact h5
   · omega
def Off.add (O : Off) (j k : Nat) (home : Int) : Off := match O.comps[j]? with
 | some c => ⟨O.comps.set j { c with parts := c.parts.set k O.parts.length }, O.parts ++ [((j : Int), home)]⟩
 | none => O
theorem QL (c : CG) (h : c.ok) (k : Nat) (hk : k < 4) (v : Nat) : BQ { c with parts := c.parts.set k v } = (BQ c).set (1 + k) (iV (v : Int)) := by
 obtain ⟨h1, _, _⟩ := h
 unfold BQ
 rw [Nat.add_comm 1 k, List.set_cons_succ, List.set_append_left _ _ (by simp [h1, hk]), List.map_set]
theorem k94 (n : Nat) (hn : 1 ≤ n) (s : AA) (o : Nat) (cb pb : Option Nat) (O : Off) (h : Ah s o cb pb O) (hlp : O.parts.length < 1000000) (j k : Nat) (home : Int) (c : CG) (hc : O.comps[j]? = some c) (hk : k < 4) :
 ∃ s', AU AL Aj n (.fn 94) [.pointer (some ⟨o, 0, none⟩), .int .i64 (j : Int), .int .i64 (k : Int), .int .i64 home] s = .ok (.tuple ⟨[]⟩, s') ∧ FQ s s' o cb pb (O.add j k home) := by
 obtain ⟨m, rfl, _⟩ := Ac hn
 obtain ⟨cv, pv, r0, r1, hC, hP⟩ := h.slices
 have hj := BK hc
 obtain ⟨b, hb, hi⟩ := hC.iad j hj .i64
 have hok := h.ok c (List.mem_of_getElem? hc)
 obtain ⟨b1, s1, hb1, w1, h1, f1, n1, g1⟩ := h.Yf hc (i := 1 + k) (x := iV (O.parts.length : Int)) (by omega) rfl (c' := { c with parts := c.parts.set k O.parts.length }) ⟨by simp [hok.1], hok.2.1, hok.2.2⟩ (QL c hok k hk _)
 obtain rfl : b = b1 := Option.some.inj (hb.symm.trans hb1)
 obtain ⟨cv1, pv1, r0', r1', hC1, hP1⟩ := h1.slices
 obtain ⟨s2, hs2⟩ : ∃ s2, s2 = s1.new (.cells (EP ((j : Int), home)) 116 true) := ⟨_, rfl⟩
 have x2 : Ext s1 s2 := by rw [hs2]; exact (Ext.refl s1).new _
 have h2 := h1.ext x2
 have hP2 := hP1.frame x2.nx (fun b e => x2.get b (hP1.lt e))
 have hsrc : DL s2 2 (Bo 1 1 s1.nx) = some (EP ((j : Int), home)) := by
  show s2.rd s1.nx 0 (Nat.mul 1 2) = _
  rw [ED (by rw [hs2, AA.Ak, if_pos rfl]) (by simp [EP])]; rfl
 obtain ⟨pv3, s3, pb3, w3, hA3, hb3, n3, g3⟩ := hP2.push (by decide) (by_ := 16) (by show (O.parts.length + 1) * 16 ≤ _; omega) (by show O.parts.length + 1 < 9223372036854775808; omega) (news := EP ((j : Int), home)) rfl rfl hsrc
 have hn2 : s2.nx = s1.nx + 1 := by rw [hs2]; rfl
 have h3 : Ah s3 o cb pb3 ⟨O.comps.set j { c with parts := c.parts.set k O.parts.length }, O.parts ++ [((j : Int), home)]⟩ ∨ True := .inr trivial
 have gold : ∀ i, i < s2.nx → pb ≠ some i → s3.get i = s2.get i := g3
 have h3' : Ah s3 o cb none ⟨O.comps.set j { c with parts := c.parts.set k O.parts.length }, []⟩ ∨ True := .inr trivial
 clear h3 h3'
 obtain ⟨cv2, pv2, e1, e2, e3⟩ := h2.ex
 have ho3 : s3.get o = some (.cells [cv2, pv2] 95 true) := by rw [gold o h2.lt h.po]; exact e1
 have hC3 : BX s3 cb 120 21 ((O.comps.set j { c with parts := c.parts.set k O.parts.length }).flatMap BQ) (O.comps.set j { c with parts := c.parts.set k O.parts.length }).length cv2 := e2.frame n3 fun b' e => gold b' (e2.lt e) (fun e' => h.cp b' e e')
 have hpo3 : pb3 ≠ some o := by
  rcases hb3 with rfl | rfl
  · exact h.po
  · intro e; have := Option.some.inj e; have := h2.lt; omega
 have hcp3 : ∀ b', cb = some b' → pb3 ≠ some b' := by
  intro b' e e'
  rcases hb3 with rfl | rfl
  · exact h.cp b' e e'
  · have := Option.some.inj e'; have := e2.lt e; omega
 have w4 := MP (s := s3) (b := o) ho3 (o := 1) (v := pv3) hA3.simple (by simp)
 obtain ⟨s4, hs4⟩ : ∃ s4, s4 = s3.put o (.cells ([cv2, pv2].set 1 pv3) 95 true) := ⟨_, rfl⟩
 rw [← hs4] at w4
 have g4 : ∀ i, i ≠ o → s4.get i = s3.get i := fun i hi => by rw [hs4, AA.get_put, if_neg hi]
 have n4 : s4.nx = s3.nx := by rw [hs4]; rfl
 have h4 : Ah s4 o cb pb3 ⟨O.comps.set j { c with parts := c.parts.set k O.parts.length }, O.parts ++ [((j : Int), home)]⟩ := by
  refine ⟨by rw [n4]; have := h2.lt; omega, ⟨cv2, pv3, by rw [hs4, AA.get_put, if_pos rfl]; rfl, ?_, ?_⟩, h1.ok, h.co, hpo3, hcp3⟩
  · exact hC3.frame (by rw [n4]; exact Nat.le_refl _) fun b' e => g4 b' (fun e' => h.co (by rw [e, e']))
  · have := hA3.frame (s' := s4) (by rw [n4]; exact Nat.le_refl _) fun b' e => g4 b' (fun e' => hpo3 (by rw [e, e']))
    simpa using this
 refine ⟨s4, ?_, ⟨cb, pb3, ?_, ?_⟩, ⟨by rw [n4]; omega, fun i hi hF => ?_⟩⟩
 · rw [Ap 94 c94 rfl, f94_eq]
   have a1 : BR 21 cv (.int .i64 (j : Int)) = some (.pointer (some ⟨b, j * 21, none⟩)) := hi
   have a2 : Ad 1 (.pointer (some ⟨b, j * 21, none⟩)) = some (.pointer (some ⟨b, j * 21 + 1, none⟩)) := rfl
   have a3 : CY 4 1 (.pointer (some ⟨b, j * 21 + 1, none⟩)) (.int .i64 (k : Int)) = some (.pointer (some ⟨b, j * 21 + (1 + k), none⟩)) := by rw [FP _ _ _ _ _ _ hk, Nat.mul_one, Nat.add_assoc]
   have nb1 : Nat.ble s.nx s1.nx = true := Ae.2 (by omega)
   have e4 : ob (fill [.int .i64 0, .int .i64 0] [(0, 1, .int .i64 (j : Int)), (1, 1, .int .i64 home)]) (fun c => some (Value.agg ⟨c⟩)) = some (.agg ⟨EP ((j : Int), home)⟩) := rfl
   have e5 : ob (fill (zeros [.int .i64 0, .int .i64 0] 1) [(0, 2, .agg ⟨EP ((j : Int), home)⟩)]) (fun c => some (CX.cells c 116 true, Bo 1 1)) = some (.cells (EP ((j : Int), home)) 116 true, Bo 1 1) := rfl
   have w1' : wSt s 1 (.int .i64 (O.parts.length : Int)) (.pointer (some ⟨b, j * 21 + (1 + k), none⟩)) = some (Bl, s1) := w1
   have r1'' : s1.rd1 o 1 = some pv1 := r1'
   have hpv : pv2 = pv2 := rfl
   have w3' : FC s2 116 2 16 pv1 (Bo 1 1 s1.nx) = some (pv3, s3) := w3
   simp [r0, r1, hP.len_eq, a1, a2, a3, w1', nb1, r1'', e4, e5, ← hs2, w3', w4]
 · unfold Off.add; rw [hc]; exact h4
 · intro i hi
   rcases hi with rfl | hi | hi
   · exact .inl (.inl rfl)
   · exact .inl (.inr (.inl hi))
   · rcases hb3 with rfl | rfl
     · exact .inl (.inr (.inr hi))
     · have := Option.some.inj hi; exact .inr (by omega)
 · rw [g4 i (fun e => hF (.inl e)), gold i (by omega) (fun e => hF (.inr (.inr e))), x2.get i (by omega), g1 i (fun e => hF (.inr (.inl (by rw [hb, e]))))]
end Go.Im
set_option maxRecDepth 100000
set_option maxHeartbeats 4000000
namespace Go.Im
theorem OG (x : List UInt8) : ∀ (l : List CG) (i : Nat), BZ x l i = -1 ∨ ∃ (j : Nat) (c : CG), l[j]? = some c ∧ c.name = x ∧ BZ x l i = ((i + j : Nat) : Int)
 | [], _ => .inl rfl
 | c :: l, i => by
  unfold BZ
  by_cases h : c.name = x
  · exact .inr ⟨0, c, rfl, h, by rw [if_pos h]; rfl⟩
  · rw [if_neg h]
    rcases OG x l (i + 1) with h1 | ⟨j, d, h1, h2, h3⟩
    · exact .inl h1
    · exact .inr ⟨j + 1, d, h1, h2, by rw [h3, Nat.add_assoc, Nat.add_comm 1]⟩
theorem aI {x : List UInt8} {l : List CG} (h : 0 ≤ BZ x l 0) : ∃ (j : Nat) (c : CG), l[j]? = some c ∧ c.name = x ∧ BZ x l 0 = (j : Int) := by
 rcases OG x l 0 with h1 | ⟨j, c, h1, h2, h3⟩
 · omega
 · exact ⟨j, c, h1, h2, by rw [h3, Nat.zero_add]⟩
section
variable {s : AA} {o : Nat} {cb pb : Option Nat} {O : Off}
theorem Ah.KL (h : Ah s o cb pb O) {j : Nat} (hj : j < O.comps.length) : ∃ b, cb = some b := by
 obtain ⟨cv, pv, _, h2, _⟩ := h.ex
 obtain ⟨b, hb, _⟩ := h2.iad j hj .i64
 exact ⟨b, hb⟩
theorem Ah.Ua (h : Ah s o cb pb O) {j : Nat} (hj : j < O.parts.length) : ∃ b, pb = some b := by
 obtain ⟨cv, pv, _, _, h3⟩ := h.ex
 obtain ⟨b, hb, _⟩ := h3.iad j hj .i64
 exact ⟨b, hb⟩
theorem Ah.C {b : Nat} (h : Ah s o (some b) pb O) : ∃ cv, s.rd1 o 0 = some cv ∧ (∀ j, j < O.comps.length → BR 21 cv (.int .i64 (j : Int)) = some (.pointer (some ⟨b, j * 21, none⟩))) ∧ CZ cv = some (.int .i64 (O.comps.length : Int)) ∧ simple cv = true := by
 obtain ⟨cv, pv, r0, r1, h2, h3⟩ := h.slices
 refine ⟨cv, r0, fun j hj => ?_, h2.len_eq, h2.simple⟩
 obtain ⟨b', hb, e⟩ := h2.iad j hj .i64
 obtain rfl := Option.some.inj hb
 exact e
theorem Ah.P {b : Nat} (h : Ah s o cb (some b) O) : ∃ pv, s.rd1 o 1 = some pv ∧ (∀ j, j < O.parts.length → BR 2 pv (.int .i64 (j : Int)) = some (.pointer (some ⟨b, j * 2, none⟩))) ∧ CZ pv = some (.int .i64 (O.parts.length : Int)) ∧ simple pv = true := by
 obtain ⟨cv, pv, r0, r1, h2, h3⟩ := h.slices
 refine ⟨pv, r1, fun j hj => ?_, h3.len_eq, h3.simple⟩
 obtain ⟨b', hb, e⟩ := h3.iad j hj .i64
 obtain rfl := Option.some.inj hb
 exact e
theorem Ah.rdC {b : Nat} (h : Ah s o (some b) pb O) {j i : Nat} {c : CG} {x : Value} (hc : O.comps[j]? = some c) (hi : i < 21) (hx : (BQ c)[i]? = some x) : s.rd1 b (j * 21 + i) = some x := by
 obtain ⟨b', hb, e⟩ := h.rdComp hc hi hx
 obtain rfl := Option.some.inj hb
 exact e
theorem Ah.rdP {b : Nat} (h : Ah s o cb (some b) O) {j i : Nat} {p : Int × Int} {x : Value} (hp : O.parts[j]? = some p) (hi : i < 2) (hx : (EP p)[i]? = some x) : s.rd1 b (j * 2 + i) = some x := by
 obtain ⟨b', hb, e⟩ := h.rdPrt hp hi hx
 obtain rfl := Option.some.inj hb
 exact e
theorem Ah.wC {b : Nat} (h : Ah s o (some b) pb O) {j i : Nat} {c c' : CG} {x : Value} (hc : O.comps[j]? = some c) (hi : i < 21) (hx : simple x = true) (hc' : c'.ok) (he : BQ c' = (BQ c).set i x) :
 ∃ s', wSt s 1 x (.pointer (some ⟨b, j * 21 + i, none⟩)) = some (Bl, s') ∧ Ah s' o (some b) pb ⟨O.comps.set j c', O.parts⟩ ∧ Fr s s' (E5 o (some b) pb) ∧ s'.nx = s.nx := by
 obtain ⟨b', s', hb, h1, h2, h3, h4, _⟩ := h.Yf hc hi hx hc' he
 obtain rfl := Option.some.inj hb
 exact ⟨s', h1, h2, h3, h4⟩
theorem Ah.wP {b : Nat} (h : Ah s o cb (some b) O) {j i : Nat} {p p' : Int × Int} {x : Value} (hp : O.parts[j]? = some p) (hi : i < 2) (hx : simple x = true) (he : EP p' = (EP p).set i x) :
 ∃ s', wSt s 1 x (.pointer (some ⟨b, j * 2 + i, none⟩)) = some (Bl, s') ∧ Ah s' o cb (some b) ⟨O.comps, O.parts.set j p'⟩ ∧ Fr s s' (E5 o cb (some b)) ∧ s'.nx = s.nx := by
 obtain ⟨b', s', hb, h1, h2, h3, h4, _⟩ := h.setPrt hp hi hx he
 obtain rfl := Option.some.inj hb
 exact ⟨s', h1, h2, h3, h4⟩
end
def Off.check (O : Off) : Ord → Int
 | .new a => if 0 ≤ BZ a O.comps 0 then 7 else if O.comps.length = 8 then 3 else 0
 | .swap a b _ => if BZ a O.comps 0 < 0 ∨ BZ b O.comps 0 < 0 then 6 else if a = b then 7 else 0
 | .card a _ _ => if BZ a O.comps 0 < 0 then 6 else 0
 | .mend a _ => if BZ a O.comps 0 < 0 then 6 else 0
 | .undo => 0
section
variable {s : AA} {o : Nat} {cb pb : Option Nat} {O : Off}
theorem k192 (n : Nat) (h : Ah s o cb pb O) (hn : O.comps.length + 6 ≤ n) (hlen : O.comps.length < 1000000000) (a : List UInt8) (e : Nat) (hl : e < s.nx) (he : s.get e = some (.cells [strOf a] 188 true)) :
 Gives (AU AL Aj n (.fn 192) [.pointer (some ⟨e, 0, none⟩), .pointer (some ⟨o, 0, none⟩)] s) s (.int .i64 (O.check (.new a))) := by
 obtain ⟨m, rfl, _⟩ := Ac (show 1 ≤ n by omega)
 obtain ⟨s1, d1, x1⟩ := k93 m s o cb pb O h (by omega) hlen a
 have h1 := h.ext x1
 obtain ⟨cv, pv, r0, _, hC, _⟩ := h1.slices
 refine ⟨s1, ?_, x1⟩
 rw [Ap 192 c192 rfl, nI]
 have re : s.rd1 e 0 = some (strOf a) := by rw [Ai he]; rfl
 have e8 : ((O.comps.length : Int) = 8) ↔ O.comps.length = 8 := by omega
 simp only [Off.check]
 by_cases c : 0 ≤ BZ a O.comps 0
 · simp [re, d1, c]
 · by_cases c8 : O.comps.length = 8 <;> simp [re, d1, c, r0, hC.len_eq, e8, c8]
theorem k186 (n : Nat) (h : Ah s o cb pb O) (hn : O.comps.length + 6 ≤ n) (hlen : O.comps.length < 1000000000) (a : List UInt8) (cs : List Value) (e : Nat) (hl : e < s.nx) (he : s.get e = some (.cells (strOf a :: cs) 193 true)) (x y : Int) :
 Gives (AU AL Aj n (.fn 186) [.pointer (some ⟨e, 0, none⟩), .pointer (some ⟨o, 0, none⟩)] s) s (.int .i64 (O.check (.card a x y))) := by
 obtain ⟨m, rfl, _⟩ := Ac (show 1 ≤ n by omega)
 obtain ⟨s1, d1, x1⟩ := k93 m s o cb pb O h (by omega) hlen a
 refine ⟨s1, ?_, x1⟩
 rw [Ap 186 c186 rfl, mg]
 have re : s.rd1 e 0 = some (strOf a) := by rw [Ai he]; rfl
 simp only [Off.check]
 by_cases c : BZ a O.comps 0 < 0 <;> simp [re, d1, c]
theorem k188 (n : Nat) (h : Ah s o cb pb O) (hn : O.comps.length + 6 ≤ n) (hlen : O.comps.length < 1000000000) (a : List UInt8) (cs : List Value) (e : Nat) (hl : e < s.nx) (he : s.get e = some (.cells (strOf a :: cs) 114 true)) (x : Int) :
 Gives (AU AL Aj n (.fn 188) [.pointer (some ⟨e, 0, none⟩), .pointer (some ⟨o, 0, none⟩)] s) s (.int .i64 (O.check (.mend a x))) := by
 obtain ⟨m, rfl, _⟩ := Ac (show 1 ≤ n by omega)
 obtain ⟨s1, d1, x1⟩ := k93 m s o cb pb O h (by omega) hlen a
 refine ⟨s1, ?_, x1⟩
 rw [Ap 188 c188 rfl, nD]
 have re : s.rd1 e 0 = some (strOf a) := by rw [Ai he]; rfl
 simp only [Off.check]
 by_cases c : BZ a O.comps 0 < 0 <;> simp [re, d1, c]
theorem k195 (n : Nat) (h : Ah s o cb pb O) (hn : O.comps.length + 6 ≤ n) (hlen : O.comps.length < 1000000000) (a b : List UInt8) (k : Int) (e : Nat) (hl : e < s.nx) (he : s.get e = some (.cells [strOf a, strOf b, .int .i64 k] 191 true)) :
 Gives (AU AL Aj n (.fn 195) [.pointer (some ⟨e, 0, none⟩), .pointer (some ⟨o, 0, none⟩)] s) s (.int .i64 (O.check (.swap a b k))) := by
 obtain ⟨m, rfl, _⟩ := Ac (show 1 ≤ n by omega)
 obtain ⟨s1, d1, x1⟩ := k93 m s o cb pb O h (by omega) hlen a
 obtain ⟨s2, d2, x2⟩ := k93 m s1 o cb pb O (h.ext x1) (by omega) hlen b
 have re : s.rd1 e 0 = some (strOf a) := by rw [Ai he]; rfl
 have he1 : s1.get e = _ := (x1.get e hl).trans he
 have he2 : s2.get e = _ := (x2.get e (Nat.lt_of_lt_of_le hl x1.nx)).trans he1
 have re1 : s1.rd1 e 1 = some (strOf b) := by rw [Ai he1]; rfl
 have r20 : s2.rd1 e 0 = some (strOf a) := by rw [Ai he2]; rfl
 have r21 : s2.rd1 e 1 = some (strOf b) := by rw [Ai he2]; rfl
 have q : BG .eql (strOf a) (strOf b) = some (.bool (decide (a = b))) := by unfold strOf; rw [EO]; rfl
 simp only [Off.check]
 by_cases c : BZ a O.comps 0 < 0
 · refine ⟨s1, ?_, x1⟩
   rw [Ap 195 WL rfl, Yb]
   simp [re, d1, c]
 · refine ⟨s2, ?_, x1.trans x2⟩
   rw [Ap 195 WL rfl, Yb]
   by_cases c' : BZ b O.comps 0 < 0
   · simp [re, d1, c, re1, d2, c']
   · by_cases c2 : a = b
     · subst c2
       simp [re, d1, c, re1, d2, r20, r21, q]
     · simp [re, d1, c, re1, d2, c', r20, r21, q, c2]
end
end Go.Im
set_option maxRecDepth 100000
set_option maxHeartbeats 4000000
namespace Go.Im
theorem Gi : ∀ {l : List Value}, (∀ v ∈ l, simple v = true) → Bh l = true
 | [], _ => rfl
 | v :: l, h => by
  show cond (simple v) (Bh l) false = true
  rw [h v (by simp), Gi fun w hw => h w (by simp [hw])]; rfl
def newC (a : List UInt8) : CG := ⟨a, [0, 0, 0, 0], [0, 0, 0, 0, 0, 0, 0, 0], [false, false, false, false, false, false, false, false]⟩
theorem nV (a : List UInt8) : (newC a).ok := ⟨rfl, rfl, rfl⟩
def Off.arrive (O : Off) (a : List UInt8) : Off :=
 let j := O.comps.length
 (((Off.add ⟨O.comps ++ [newC a], O.parts⟩ j 0 j).add j 1 j).add j 2 j).add j 3 j
theorem Off.add_clen (O : Off) (j k : Nat) (h : Int) : (O.add j k h).comps.length = O.comps.length := by
 unfold Off.add; split <;> simp
theorem Off.add_plen (O : Off) (j k : Nat) (h : Int) : (O.add j k h).parts.length ≤ O.parts.length + 1 := by
 unfold Off.add; split <;> simp
theorem Bv {α : Type} {l : List α} {j : Nat} (h : j < l.length) : ∃ c, l[j]? = some c := ⟨_, List.getElem?_eq_getElem h⟩
section
variable {s : AA} {o : Nat} {cb pb : Option Nat} {O : Off}
theorem Ah.pushC (h : Ah s o cb pb O) {c : CG} (hc : c.ok) (hlen : O.comps.length < 1000000) {x : Value} (hsrc : DL s 21 x = some (BQ c)) :
 ∃ cv cv3 s3 s4, s.rd1 o 0 = some cv ∧ FC s 120 21 120 cv x = some (cv3, s3) ∧ s.nx ≤ s3.nx ∧ wSt s3 1 cv3 (.pointer (some ⟨o, 0, none⟩)) = some (Bl, s4) ∧ s4.nx = s3.nx ∧ FQ s s4 o cb pb ⟨O.comps ++ [c], O.parts⟩ := by
 obtain ⟨cv, pv, e1, e2, e3⟩ := h.ex
 have hs : Bh (BQ c) = true := by
  have : ∀ v ∈ BQ c, simple v = true := by
   intro v hv
   unfold BQ at hv
   simp only [List.mem_cons, List.mem_append, List.mem_map] at hv
   rcases hv with rfl | ⟨_, _, rfl⟩ | ⟨_, _, rfl⟩ | ⟨_, _, rfl⟩ <;> rfl
  exact Gi this
 obtain ⟨cv3, s3, cb3, w3, hA3, hb3, n3, g3⟩ := e2.push (by decide) (by_ := 120) (by omega) (by show O.comps.length + 1 < 9223372036854775808; omega) (news := BQ c) (D8 hc) hs hsrc
 have ho3 : s3.get o = some (.cells [cv, pv] 95 true) := by rw [g3 o h.lt h.co]; exact e1
 have hP3 : BX s3 pb 116 2 (O.parts.flatMap EP) O.parts.length pv := e3.frame n3 fun b e => g3 b (e3.lt e) (fun e' => h.cp b e' e)
 have hco3 : cb3 ≠ some o := by
  rcases hb3 with rfl | rfl
  · exact h.co
  · intro e; have := Option.some.inj e; have := h.lt; omega
 have hcp3 : ∀ b, cb3 = some b → pb ≠ some b := by
  intro b e e'
  rcases hb3 with rfl | rfl
  · exact h.cp b e e'
  · have := Option.some.inj e; have := e3.lt e'; omega
 have w4 := MP (s := s3) (b := o) ho3 (o := 0) (v := cv3) hA3.simple (by simp)
 obtain ⟨s4, hs4⟩ : ∃ s4, s4 = s3.put o (.cells ([cv, pv].set 0 cv3) 95 true) := ⟨_, rfl⟩
 rw [← hs4] at w4
 have g4 : ∀ i, i ≠ o → s4.get i = s3.get i := fun i hi => by rw [hs4, AA.get_put, if_neg hi]
 have n4 : s4.nx = s3.nx := by rw [hs4]; rfl
 refine ⟨cv, cv3, s3, s4, by rw [Ai e1]; rfl, w3, n3, w4, n4, ⟨cb3, pb, ⟨by rw [n4]; have := h.lt; omega, ⟨cv3, pv, by rw [hs4, AA.get_put, if_pos rfl]; rfl, ?_, ?_⟩, ?_, hco3, h.po, hcp3⟩, ?_⟩, ⟨by rw [n4]; omega, fun i hi hF => ?_⟩⟩
 · have := hA3.frame (s' := s4) (by rw [n4]; exact Nat.le_refl _) fun b' e => g4 b' (fun e' => hco3 (by rw [e, e']))
   simpa using this
 · exact hP3.frame (by rw [n4]; exact Nat.le_refl _) fun b' e => g4 b' (fun e' => h.po (by rw [e, e']))
 · intro a ha
   rcases List.mem_append.1 ha with ha | ha
   · exact h.ok a ha
   · rw [List.mem_singleton.1 ha]; exact hc
 · intro i hi
   rcases hi with rfl | hi | hi
   · exact .inl (.inl rfl)
   · rcases hb3 with rfl | rfl
     · exact .inl (.inr (.inl hi))
     · have := Option.some.inj hi; exact .inr (by omega)
   · exact .inl (.inr (.inr hi))
 · rw [g4 i (fun e => hF (.inl e)), g3 i (by omega) (fun e => hF (.inr (.inl e)))]
theorem FQ.of_ext {s s' : AA} {O' : Off} (h : Ah s o cb pb O') (x : Ext s s') : FQ s s' o cb pb O' := ⟨⟨cb, pb, h.ext x, fun b hb => .inl hb⟩, .of_ext x _⟩
theorem k94' (n : Nat) (hn : 1 ≤ n) (h : Ah s o cb pb O) (hlp : O.parts.length < 1000000) (j k : Nat) (home : Int) (hj : j < O.comps.length) (hk : k < 4) :
 ∃ s', AU AL Aj n (.fn 94) [.pointer (some ⟨o, 0, none⟩), .int .i64 (j : Int), .int .i64 (k : Int), .int .i64 home] s = .ok (.tuple ⟨[]⟩, s') ∧ FQ s s' o cb pb (O.add j k home) := by
 obtain ⟨c, hc⟩ := Bv hj
 exact k94 n hn s o cb pb O h hlp j k home c hc hk
theorem aJ (n : Nat) (hn : 1 ≤ n) (j : Nat) (o : Nat) : ∀ (d k f : Nat) (s : AA) (cb pb : Option Nat) (O : Off), k + d = 4 → d < f → Ah s o cb pb O → O.parts.length + d < 1000000 → j < O.comps.length →
 ∃ s', MN WJ (AU AL Aj n) n f (.pointer (some ⟨o, 0, none⟩)) (.int .i64 (j : Int)) (.int .i64 (k : Int)) s = .ok (.tuple ⟨[]⟩, s') ∧ FQ s s' o cb pb ((List.range' k d).foldl (fun O k => O.add j k j) O) := by
 intro d
 induction d with
 | zero =>
  intro k f s cb pb O hk hf h hp hj
  obtain ⟨f, rfl, _⟩ := Ac hf
  obtain rfl : k = 4 := by omega
  refine ⟨s, ?_, .of_ext h (.refl s)⟩
  rw [QG WJ rfl]; rfl
 | succ d ih =>
  intro k f s cb pb O hk hf h hp hj
  obtain ⟨f, rfl, _⟩ := Ac hf
  obtain ⟨s1, d1, p1⟩ := k94' n hn h (by omega) j k j hj (by omega)
  obtain ⟨cb1, pb1, h1, u1⟩ := p1.ex
  have := O.add_plen j k j
  obtain ⟨s2, d2, p2⟩ := ih (k + 1) f s1 cb1 pb1 (O.add j k j) (by omega) (by omega) h1 (by omega) (by rw [Off.add_clen]; exact hj)
  refine ⟨s2, ?_, ?_⟩
  · have hw : Az .i64 (Int.add (k : Int) 1) = ((k + 1 : Nat) : Int) := by rw [Eb, wrap64 (by omega)]; omega
    have hlt : (k : Int) < 4 := by omega
    rw [QG WJ rfl, BP, decide_eq_true hlt, cond_true, XE WJ rfl, d1, bind_ok, hw]
    exact d2
  · rw [List.range'_succ, List.foldl_cons]
    refine ⟨?_, ?_⟩
    · obtain ⟨cb2, pb2, h2, u2⟩ := p2.ex
      refine ⟨cb2, pb2, h2, fun i hi => ?_⟩
      rcases u2 i hi with h5 | h5
      · exact u1 i h5
      · exact .inr (Nat.le_trans p1.fr.nx h5)
    · refine p1.fr.trans p2.fr fun i hi hF => ?_
      rcases u1 i hF with h5 | h5
      · exact h5
      · omega
theorem k191 (n : Nat) (hn : 10 ≤ n) (h : Ah s o cb pb O) (hlen : O.comps.length < 1000000) (hp : O.parts.length + 4 < 1000000) (a : List UInt8) (e : Nat) (he : s.get e = some (.cells [strOf a] 188 true)) :
 ∃ s', AU AL Aj n (.fn 191) [.pointer (some ⟨e, 0, none⟩), .pointer (some ⟨o, 0, none⟩)] s = .ok (.tuple ⟨[]⟩, s') ∧ FQ s s' o cb pb (O.arrive a) := by
 obtain ⟨m, rfl, _⟩ := Ac hn
 obtain ⟨cv, pv, r0, _, hC, _⟩ := h.slices
 obtain ⟨s2, hs2⟩ : ∃ s2, s2 = s.new (.cells (BQ (newC a)) 120 true) := ⟨_, rfl⟩
 have x2 : Ext s s2 := by rw [hs2]; exact (Ext.refl s).new _
 have hn2 : s2.nx = s.nx + 1 := by rw [hs2]; rfl
 have hsrc : DL s2 21 (Bo 1 1 s.nx) = some (BQ (newC a)) := by
  show s2.rd s.nx 0 (Nat.mul 1 21) = _
  rw [ED (by rw [hs2, AA.Ak, if_pos rfl]) (by simp [BQ, newC])]; rfl
 have h2 := h.ext x2
 obtain ⟨cv', cv3, s3, s4, r2, w3, n3, w4, n4, p4⟩ := h2.pushC (nV a) hlen hsrc
 have r2' : s2.rd1 o 0 = some cv := by
  have e1 := x2.get o h.lt
  unfold AA.rd1 at r0 ⊢
  rw [e1]; exact r0
 obtain rfl : cv = cv' := Option.some.inj (r2'.symm.trans r2)
 obtain ⟨cb4, pb4, h4, u4⟩ := p4.ex
 obtain ⟨s5, d5, p5⟩ := aJ m (by omega) O.comps.length o 4 0 m s4 cb4 pb4 ⟨O.comps ++ [newC a], O.parts⟩ (by omega) (by omega) h4 (by show O.parts.length + 4 < _; omega) (by simp)
 refine ⟨s5, ?_, ?_⟩
 · rw [Ap 191 Td rfl, nH]
   have re : s.rd1 e 0 = some (strOf a) := by rw [Ai he]; rfl
   have e4 : ob (fill [.string ⟨#[]⟩, .int .i64 0, .int .i64 0, .int .i64 0, .int .i64 0, .int .i64 0, .int .i64 0, .int .i64 0, .int .i64 0, .int .i64 0, .int .i64 0, .int .i64 0, .int .i64 0, .bool false, .bool false, .bool false, .bool false, .bool false, .bool false, .bool false, .bool false] [(0, 1, strOf a)]) (fun c => some (Value.agg ⟨c⟩)) = some (.agg ⟨BQ (newC a)⟩) := rfl
   have e5 : ob (fill (zeros [.string ⟨#[]⟩, .int .i64 0, .int .i64 0, .int .i64 0, .int .i64 0, .int .i64 0, .int .i64 0, .int .i64 0, .int .i64 0, .int .i64 0, .int .i64 0, .int .i64 0, .int .i64 0, .bool false, .bool false, .bool false, .bool false, .bool false, .bool false, .bool false, .bool false] 1) [(0, 21, .agg ⟨BQ (newC a)⟩)]) (fun c => some (CX.cells c 120 true, Bo 1 1)) = some (.cells (BQ (newC a)) 120 true, Bo 1 1) := rfl
   have nb2 : Nat.ble s.nx s2.nx = true := Ae.2 (by omega)
   have nb3 : Nat.ble s2.nx s3.nx = true := Ae.2 n3
   have nb4 : Nat.ble s3.nx s4.nx = true := Ae.2 (by omega)
   have d5' : MN WJ (AU AL Aj m) m m (.pointer (some ⟨o, 0, none⟩)) (.int .i64 (O.comps.length : Int)) (.int .i64 0) s4 = .ok (.tuple ⟨[]⟩, s5) := d5
   simp [r0, re, hC.len_eq, e4, e5, ← hs2, w3, w4, nb2, nb3, nb4, d5']
 · have hA : (List.range' 0 4).foldl (fun (O' : Off) k => O'.add O.comps.length k O.comps.length) ⟨O.comps ++ [newC a], O.parts⟩ = O.arrive a := rfl
   rw [hA] at p5
   refine ⟨?_, ?_⟩
   · obtain ⟨cb5, pb5, h5, u5⟩ := p5.ex
     refine ⟨cb5, pb5, h5, fun i hi => ?_⟩
     rcases u5 i hi with h6 | h6
     · rcases u4 i h6 with h7 | h7
       · exact .inl h7
       · exact .inr (by omega)
     · exact .inr (by have := p4.fr.nx; omega)
   · refine (Fr.of_ext x2 (E5 o cb pb)).trans (p4.fr.trans p5.fr fun i hi hF => ?_) fun i _ hF => hF
     rcases u4 i hF with h5 | h5
     · exact h5
     · omega
end
end Go.Im
set_option maxRecDepth 100000
set_option maxHeartbeats 4000000
namespace Go.Im
def setH (P : List (Int × Int)) (i : Nat) (v : Int) : List (Int × Int) := match P[i]? with | some t => P.set i (v, t.2) | none => P
def D7 (P : List (Int × Int)) (i : Nat) : Int := match P[i]? with | some t => t.2 | none => 0
def setPart (C : List CG) (j k v : Nat) : List CG := match C[j]? with | some c => C.set j { c with parts := c.parts.set k v } | none => C
def partAt (C : List CG) (j k : Nat) : Nat := match C[j]? with | some c => c.parts.getD k 0 | none => 0
def setCard (C : List CG) (j h : Nat) (v : Int) : List CG := match C[j]? with | some c => C.set j { c with card := c.card.set h v } | none => C
def JH (C : List CG) (j h : Nat) : Int := match C[j]? with | some c => c.card.getD h 0 | none => 0
def setTold (C : List CG) (j h : Nat) (v : Bool) : List CG := match C[j]? with | some c => C.set j { c with told := c.told.set h v } | none => C
def JI (C : List CG) (j h : Nat) : Bool := match C[j]? with | some c => c.told.getD h false | none => false
theorem D9 (P : List (Int × Int)) (i : Nat) (v : Int) : (setH P i v).length = P.length := by unfold setH; split <;> simp
theorem Bg (C : List CG) (j k v : Nat) : (setPart C j k v).length = C.length := by unfold setPart; split <;> simp
theorem F5 (C : List CG) (j k : Nat) (v : Int) : (setCard C j k v).length = C.length := by unfold setCard; split <;> simp
theorem IB (C : List CG) (j k : Nat) (v : Bool) : (setTold C j k v).length = C.length := by unfold setTold; split <;> simp
theorem EG (C : List CG) (j k v : Nat) (hj : j < C.length) (hC : ∀ c ∈ C, c.ok) (hk : k < 4) : partAt (setPart C j k v) j k = v := by
 obtain ⟨c, hc⟩ := Bv hj
 have := (hC c (List.mem_of_getElem? hc)).1
 have e : setPart C j k v = C.set j { c with parts := c.parts.set k v } := by unfold setPart; rw [hc]
 unfold partAt
 rw [e, List.getElem?_set_self hj]
 simp [this, hk]
theorem Fq (C : List CG) (j k v i l : Nat) (h : i ≠ j) : partAt (setPart C j k v) i l = partAt C i l := by
 have e : (setPart C j k v)[i]? = C[i]? := by
  unfold setPart
  cases C[j]? with
  | none => rfl
  | some c => exact List.getElem?_set_ne (Ne.symm h)
 unfold partAt
 rw [e]
theorem XK (c : CG) (h : c.ok) (k : Nat) (hk : k < 8) (v : Int) : BQ { c with card := c.card.set k v } = (BQ c).set (5 + k) (iV v) := by
 obtain ⟨h1, h2, _⟩ := h
 unfold BQ
 rw [show 5 + k = (4 + k) + 1 by omega, List.set_cons_succ, List.set_append_right _ _ (by simp [h1]), List.length_map, h1, show 4 + k - 4 = k by omega, List.set_append_left _ _ (by simp [h2, hk]), List.map_set]
theorem XL (c : CG) (h : c.ok) (k : Nat) (hk : k < 8) (v : Bool) : BQ { c with told := c.told.set k v } = (BQ c).set (13 + k) (.bool v) := by
 obtain ⟨h1, h2, h3⟩ := h
 unfold BQ
 rw [show 13 + k = (12 + k) + 1 by omega, List.set_cons_succ, List.set_append_right _ _ (by simp [h1]; omega), List.length_map, h1, show 12 + k - 4 = 8 + k by omega, List.set_append_right _ _ (by simp [h2]), List.length_map, h2, show 8 + k - 8 = k by omega, List.map_set]
section
variable {s : AA} {o b : Nat} {cb pb : Option Nat} {O : Off}
theorem Ah.cOk (h : Ah s o cb pb O) {j : Nat} {c : CG} (hc : O.comps[j]? = some c) : c.ok := h.ok c (List.mem_of_getElem? hc)
theorem Ah.kD (h : Ah s o (some b) pb O) {j k : Nat} (hj : j < O.comps.length) (hk : k < 4) (v : Nat) :
 ∃ s', wSt s 1 (.int .i64 (v : Int)) (.pointer (some ⟨b, j * 21 + (1 + k), none⟩)) = some (Bl, s') ∧ Ah s' o (some b) pb ⟨setPart O.comps j k v, O.parts⟩ ∧ Fr s s' (E5 o (some b) pb) ∧ s'.nx = s.nx := by
 obtain ⟨c, hc⟩ := Bv hj
 have hok := h.cOk hc
 have := h.wC hc (i := 1 + k) (x := iV (v : Int)) (by omega) rfl (c' := { c with parts := c.parts.set k v }) ⟨by simp [hok.1], hok.2.1, hok.2.2⟩ (QL c hok k hk v)
 unfold setPart; rw [hc]; exact this
theorem Ah.QM (h : Ah s o (some b) pb O) {j k : Nat} (hj : j < O.comps.length) (hk : k < 4) : s.rd1 b (j * 21 + (1 + k)) = some (.int .i64 (partAt O.comps j k : Int)) := by
 obtain ⟨c, hc⟩ := Bv hj
 have hok := h.cOk hc
 refine h.rdC hc (by omega) ?_
 unfold partAt BQ
 rw [hc, Nat.add_comm 1 k, List.getElem?_cons_succ, List.getElem?_append_left (by simp [hok.1, hk])]
 simp [iV, hok.1, hk]
theorem Ah.GV (h : Ah s o (some b) pb O) {j k : Nat} (hj : j < O.comps.length) (hk : k < 8) (v : Int) :
 ∃ s', wSt s 1 (.int .i64 v) (.pointer (some ⟨b, j * 21 + (5 + k), none⟩)) = some (Bl, s') ∧ Ah s' o (some b) pb ⟨setCard O.comps j k v, O.parts⟩ ∧ Fr s s' (E5 o (some b) pb) ∧ s'.nx = s.nx := by
 obtain ⟨c, hc⟩ := Bv hj
 have hok := h.cOk hc
 have := h.wC hc (i := 5 + k) (x := iV v) (by omega) rfl (c' := { c with card := c.card.set k v }) ⟨hok.1, by simp [hok.2.1], hok.2.2⟩ (XK c hok k hk v)
 unfold setCard; rw [hc]; exact this
theorem Ah.rdCard (h : Ah s o (some b) pb O) {j k : Nat} (hj : j < O.comps.length) (hk : k < 8) : s.rd1 b (j * 21 + (5 + k)) = some (.int .i64 (JH O.comps j k)) := by
 obtain ⟨c, hc⟩ := Bv hj
 have hok := h.cOk hc
 refine h.rdC hc (by omega) ?_
 unfold JH BQ
 rw [hc, show 5 + k = (4 + k) + 1 by omega, List.getElem?_cons_succ, List.getElem?_append_right (by simp [hok.1]), List.length_map, hok.1, show 4 + k - 4 = k by omega, List.getElem?_append_left (by simp [hok.2.1, hk])]
 simp [iV, hok.2.1, hk]
theorem Ah.wTold (h : Ah s o (some b) pb O) {j k : Nat} (hj : j < O.comps.length) (hk : k < 8) (v : Bool) :
 ∃ s', wSt s 1 (.bool v) (.pointer (some ⟨b, j * 21 + (13 + k), none⟩)) = some (Bl, s') ∧ Ah s' o (some b) pb ⟨setTold O.comps j k v, O.parts⟩ ∧ Fr s s' (E5 o (some b) pb) ∧ s'.nx = s.nx := by
 obtain ⟨c, hc⟩ := Bv hj
 have hok := h.cOk hc
 have := h.wC hc (i := 13 + k) (x := .bool v) (by omega) rfl (c' := { c with told := c.told.set k v }) ⟨hok.1, hok.2.1, by simp [hok.2.2]⟩ (XL c hok k hk v)
 unfold setTold; rw [hc]; exact this
theorem Ah.rdTold (h : Ah s o (some b) pb O) {j k : Nat} (hj : j < O.comps.length) (hk : k < 8) : s.rd1 b (j * 21 + (13 + k)) = some (.bool (JI O.comps j k)) := by
 obtain ⟨c, hc⟩ := Bv hj
 have hok := h.cOk hc
 refine h.rdC hc (by omega) ?_
 unfold JI BQ
 rw [hc, show 13 + k = (12 + k) + 1 by omega, List.getElem?_cons_succ, List.getElem?_append_right (by simp [hok.1]; omega), List.length_map, hok.1, show 12 + k - 4 = 8 + k by omega, List.getElem?_append_right (by simp [hok.2.1]), List.length_map, hok.2.1, show 8 + k - 8 = k by omega]
 simp [hok.2.2, hk]
theorem Ah.Yg (h : Ah s o cb (some b) O) {j : Nat} (hj : j < O.parts.length) (v : Int) :
 ∃ s', wSt s 1 (.int .i64 v) (.pointer (some ⟨b, j * 2, none⟩)) = some (Bl, s') ∧ Ah s' o cb (some b) ⟨O.comps, setH O.parts j v⟩ ∧ Fr s s' (E5 o cb (some b)) ∧ s'.nx = s.nx := by
 obtain ⟨p, hp⟩ := Bv hj
 have := h.wP hp (i := 0) (x := iV v) (by omega) rfl (p' := (v, p.2)) rfl
 unfold setH; rw [hp]; exact this
theorem Ah.rdHome (h : Ah s o cb (some b) O) {j : Nat} (hj : j < O.parts.length) : s.rd1 b (j * 2 + 1) = some (.int .i64 (D7 O.parts j)) := by
 obtain ⟨p, hp⟩ := Bv hj
 have := h.rdP hp (i := 1) (x := iV p.2) (by omega) rfl
 unfold D7; rw [hp]; exact this
theorem Ah.truncC (h : Ah s o cb pb O) {k : Nat} (hk : k ≤ O.comps.length) : ∃ cv v' s', s.rd1 o 0 = some cv ∧ rSl s 120 21 none (some (.int .i64 (k : Int))) none cv = some v' ∧ wSt s 1 v' (.pointer (some ⟨o, 0, none⟩)) = some (Bl, s') ∧ Ah s' o cb pb ⟨O.comps.take k, O.parts⟩ ∧ Fr s s' (E5 o cb pb) ∧ s'.nx = s.nx ∧ CZ cv = some (.int .i64 (O.comps.length : Int)) := by
 obtain ⟨cv, pv, r0, r1, hC, hP⟩ := h.slices
 obtain ⟨v', e, hA⟩ := hC.trunc (by decide) hk .i64
 rw [Nh BQ 21 O.comps k (fun a ha => D8 (h.ok a ha))] at hA
 have hl : (O.comps.take k).length = k := by simp; omega
 have hA : BX s cb 120 21 ((O.comps.take k).flatMap BQ) (O.comps.take k).length v' := by rw [hl]; exact hA
 obtain ⟨s', w, h', g, n⟩ := h.setCv hA (fun c hc => h.ok c (List.mem_of_mem_take hc)) h.co h.cp
 exact ⟨cv, v', s', r0, e, w, h', ⟨by omega, fun i _ hi => g i fun e => hi (.inl e)⟩, n, hC.len_eq⟩
theorem Ah.kE (h : Ah s o cb pb O) {k : Nat} (hk : k ≤ O.parts.length) : ∃ pv v' s', s.rd1 o 1 = some pv ∧ rSl s 116 2 none (some (.int .i64 (k : Int))) none pv = some v' ∧ wSt s 1 v' (.pointer (some ⟨o, 1, none⟩)) = some (Bl, s') ∧ Ah s' o cb pb ⟨O.comps, O.parts.take k⟩ ∧ Fr s s' (E5 o cb pb) ∧ s'.nx = s.nx ∧ CZ pv = some (.int .i64 (O.parts.length : Int)) := by
 obtain ⟨cv, pv, r0, r1, hC, hP⟩ := h.slices
 obtain ⟨v', e, hA⟩ := hP.trunc (by decide) hk .i64
 rw [Nh EP 2 O.parts k (fun a _ => rfl)] at hA
 have hl : (O.parts.take k).length = k := by simp; omega
 have hA : BX s pb 116 2 ((O.parts.take k).flatMap EP) (O.parts.take k).length v' := by rw [hl]; exact hA
 obtain ⟨s', w, h', g, n⟩ := h.setPv hA h.po h.cp
 exact ⟨pv, v', s', r1, e, w, h', ⟨by omega, fun i _ hi => g i fun e => hi (.inl e)⟩, n, hP.len_eq⟩
theorem Fr.tr {a b c : AA} {F : Nat → Prop} (h : Fr a b F) (k : Fr b c F) : Fr a c F := h.trans k fun _ _ h => h
def Off.depart (O : Off) : Off := ⟨O.comps.take (O.comps.length - 1), O.parts.take (O.parts.length - 4)⟩
theorem k193 (n : Nat) (hn : 1 ≤ n) (h : Ah s o cb pb O) (h1 : 1 ≤ O.comps.length) (h4 : 4 ≤ O.parts.length) (hl : O.comps.length < 1000000) (hp : O.parts.length < 1000000) (e : Value) :
 ∃ s', AU AL Aj n (.fn 193) [e, .pointer (some ⟨o, 0, none⟩)] s = .ok (.tuple ⟨[]⟩, s') ∧ Ah s' o cb pb O.depart ∧ Fr s s' (E5 o cb pb) := by
 obtain ⟨m, rfl, _⟩ := Ac hn
 obtain ⟨cv, cv', s1, r0, e0, w0, a1, f1, n1, l0⟩ := h.truncC (k := O.comps.length - 1) (by omega)
 obtain ⟨pv, pv', s2, r1, e1, w1, a2, f2, n2, l1⟩ := a1.kE (k := O.parts.length - 4) (by show _ ≤ O.parts.length; omega)
 refine ⟨s2, ?_, a2, f1.tr f2⟩
 rw [Ap 193 c193 rfl, nJ]
 have i0 : Az .i64 ((O.comps.length : Int) - 1) = ((O.comps.length - 1 : Nat) : Int) := by rw [wrap64 (by omega)]; omega
 have i1 : Az .i64 ((O.parts.length : Int) - 4) = ((O.parts.length - 4 : Nat) : Int) := by rw [wrap64 (by omega)]; omega
 have nb1 : Nat.ble s.nx s1.nx = true := Ae.2 (by omega)
 have nb2 : Nat.ble s1.nx s2.nx = true := Ae.2 (by omega)
 simp [r0, l0, i0, e0, w0, r1, l1, i1, e1, w1, nb1, nb2]
def Off.swap (O : Off) (c d k : Nat) : Off :=
 let p := partAt O.comps c k
 let q := partAt O.comps d k
 ⟨setPart (setPart O.comps c k q) d k p, setH (setH O.parts q c) p d⟩
theorem k194 (n : Nat) (h : Ah s o cb pb O) (hn : O.comps.length + 6 ≤ n) (hlen : O.comps.length < 1000000000) (x y : List UInt8) (k : Nat) (hk : k < 4) (e : Nat) (hl : e < s.nx) (he : s.get e = some (.cells [strOf x, strOf y, .int .i64 (k : Int)] 191 true)) (hF : ¬ E5 o cb pb e)
 (c d : Nat) (hc : BZ x O.comps 0 = (c : Int)) (hd : BZ y O.comps 0 = (d : Int)) (hcl : c < O.comps.length) (hdl : d < O.comps.length) (hcd : c ≠ d) (hp : partAt O.comps c k < O.parts.length) (hq : partAt O.comps d k < O.parts.length) :
 ∃ s', AU AL Aj n (.fn 194) [.pointer (some ⟨e, 0, none⟩), .pointer (some ⟨o, 0, none⟩)] s = .ok (.tuple ⟨[]⟩, s') ∧ Ah s' o cb pb (O.swap c d k) ∧ Fr s s' (E5 o cb pb) := by
 obtain ⟨m, rfl, _⟩ := Ac (show 1 ≤ n by omega)
 obtain ⟨b, rfl⟩ := h.KL hcl
 obtain ⟨b', rfl⟩ := h.Ua hp
 obtain ⟨s1, d1, x1⟩ := k93 m s o _ _ O h (by omega) hlen x
 obtain ⟨s2, d2, x2⟩ := k93 m s1 o _ _ O (h.ext x1) (by omega) hlen y
 rw [hc] at d1
 rw [hd] at d2
 have h2 := (h.ext x1).ext x2
 obtain ⟨p, hpp⟩ : ∃ p, p = partAt O.comps c k := ⟨_, rfl⟩
 obtain ⟨q, hqq⟩ : ∃ q, q = partAt O.comps d k := ⟨_, rfl⟩
 obtain ⟨cv, rc, ic, _, _⟩ := h2.C
 have hrc := h2.QM hcl hk
 have hrd := h2.QM hdl hk
 obtain ⟨s3, w3, h3, f3, n3⟩ := h2.kD hcl hk q
 obtain ⟨s4, w4, h4, f4, n4⟩ := h3.kD (j := d) (by show d < (setPart _ _ _ _).length; rw [Bg]; exact hdl) hk p
 obtain ⟨pv, rp, ip, _, _⟩ := h4.P
 have hrc4 := h4.QM (j := c) (k := k) (by show c < (setPart _ _ _ _).length; rw [Bg, Bg]; exact hcl) hk
 have hrd4 := h4.QM (j := d) (k := k) (by show d < (setPart _ _ _ _).length; rw [Bg, Bg]; exact hdl) hk
 simp only at hrc4 hrd4
 rw [Fq _ _ _ _ _ _ hcd, EG _ _ _ _ hcl h.ok hk] at hrc4
 rw [EG _ _ _ _ (by rw [Bg]; exact hdl) h3.ok hk] at hrd4
 obtain ⟨s5, w5, h5, f5, n5⟩ := h4.Yg (j := q) (by rw [hqq]; exact hq) c
 obtain ⟨s6, w6, h6, f6, n6⟩ := h5.Yg (j := p) (by show p < (setH _ _ _).length; rw [D9, hpp]; exact hp) d
 refine ⟨s6, ?_, ?_, ?_⟩
 · rw [Ap 194 c194 rfl, nK]
   have he1 : s1.get e = _ := (x1.get e hl).trans he
   have hl1 := Nat.lt_of_lt_of_le hl x1.nx
   have he2 : s2.get e = _ := (x2.get e hl1).trans he1
   have re : s.rd1 e 0 = some (strOf x) := by rw [Ai he]; rfl
   have re1 : s1.rd1 e 1 = some (strOf y) := by rw [Ai he1]; rfl
   have re0 : s.rd1 e 1 = some (strOf y) := by rw [Ai he]; rfl
   have rk : s2.rd1 e 2 = some (.int .i64 (k : Int)) := by rw [Ai he2]; rfl
   have a1 : ∀ j, Ad 1 (.pointer (some ⟨b, j * 21, none⟩)) = some (.pointer (some ⟨b, j * 21 + 1, none⟩)) := fun j => rfl
   have a3 : ∀ j, CY 4 1 (.pointer (some ⟨b, j * 21 + 1, none⟩)) (.int .i64 (k : Int)) = some (.pointer (some ⟨b, j * 21 + (1 + k), none⟩)) := fun j => by rw [FP _ _ _ _ _ _ hk, Nat.mul_one, Nat.add_assoc]
   have nb1 : Nat.ble s.nx s1.nx = true := Ae.2 x1.nx
   have nb2 : Nat.ble s1.nx s2.nx = true := Ae.2 x2.nx
   have nb3 : Nat.ble s2.nx s3.nx = true := Ae.2 (by omega)
   have nb4 : Nat.ble s3.nx s4.nx = true := Ae.2 (by omega)
   have nb5 : Nat.ble s4.nx s5.nx = true := Ae.2 (by omega)
   have nb6 : Nat.ble s5.nx s6.nx = true := Ae.2 (by omega)
   rw [← hpp] at hrc
   rw [← hqq] at hrd
   have ipq := ip q (by rw [hqq]; exact hq)
   have ipp := ip p (by rw [hpp]; exact hp)
   simp [re, re1, re0, d1, d2, Cm hl, Cm hl1, rc, rk, ic c hcl, ic d hdl, a1, a3, hrc, hrd, w3, w4, rp, hrc4, hrd4, ipq, ipp, w5, w6, nb1, nb2, nb3, nb4, nb5, nb6]
 · unfold Off.swap
   simp only [← hpp, ← hqq]
   exact h6
 · exact (Fr.of_ext (x1.trans x2) _).tr (f3.tr (f4.tr (f5.tr f6)))
end
end Go.Im
set_option maxRecDepth 100000
set_option maxHeartbeats 4000000
namespace Go.Im
theorem wEnt {s : AA} {e el : Nat} {cs : List Value} (he : s.get e = some (.cells cs el true)) {i : Nat} {v : Value} (hv : simple v = true) (hi : i < cs.length) :
 ∃ s', wSt s 1 v (.pointer (some ⟨e, i, none⟩)) = some (Bl, s') ∧ s'.get e = some (.cells (cs.set i v) el true) ∧ Fr s s' (· = e) ∧ s'.nx = s.nx :=
 ⟨_, MP he hv hi, by rw [AA.get_put, if_pos rfl], .put rfl, rfl⟩
theorem beqs (n : Nat) : Nat.beq n n = true := Nat.beq_refl n
theorem aK (b n c : Nat) : veq (.slice (some ⟨b, 0, none⟩) n c) (.slice (some ⟨b, 0, none⟩) n c) = true := by
 show (Nat.beq b b && Nat.beq 0 0 && Nat.beq n n && Nat.beq c c) = true
 simp [beqs]
theorem BX.veq {s : AA} {base : Option Nat} {el w len : Nat} {cs : List Value} {v : Value} (h : BX s base el w cs len v) : Go.Im.veq v v = true := by
 cases base with
 | none => obtain ⟨rfl, _⟩ := h; rfl
 | some b => obtain ⟨rfl, _⟩ := h; exact aK _ _ _
theorem Ah.veqC {s : AA} {o : Nat} {cb pb : Option Nat} {O : Off} (h : Ah s o cb pb O) {cv : Value} (rc : s.rd1 o 0 = some cv) : veq cv cv = true := by
 obtain ⟨cv', pv, r0, r1, hC, hP⟩ := h.slices
 obtain rfl : cv = cv' := Option.some.inj (rc.symm.trans r0)
 exact hC.veq
def OffE (o : Nat) (cb pb : Option Nat) (e : Nat) (b : Nat) : Prop := E5 o cb pb b ∨ b = e
section
variable {s : AA} {o : Nat} {cb pb : Option Nat} {O : Off}
def Off.tell (O : Off) (c h : Nat) (v : Int) (t : Bool) : Off := ⟨setTold (setCard O.comps c h v) c h t, O.parts⟩
theorem Ah.frE {s' : AA} {e : Nat} (h : Ah s o cb pb O) (k : Fr s s' (· = e)) (hF : ¬ E5 o cb pb e) : Ah s' o cb pb O := h.fr k fun b hb hbe => hF (by rw [← hbe]; exact hb)
theorem k185 (n : Nat) (h : Ah s o cb pb O) (hn : O.comps.length + 6 ≤ n) (hlen : O.comps.length < 1000000000) (x : List UInt8) (hd : Nat) (hk : hd < 8) (v : Int) (u1 u2 : Value) (e : Nat) (hl : e < s.nx)
 (he : s.get e = some (.cells [strOf x, .int .i64 (hd : Int), .int .i64 v, u1, u2] 193 true)) (hF : ¬ E5 o cb pb e) (c : Nat) (hc : BZ x O.comps 0 = (c : Int)) (hcl : c < O.comps.length) :
 ∃ s', AU AL Aj n (.fn 185) [.pointer (some ⟨e, 0, none⟩), .pointer (some ⟨o, 0, none⟩)] s = .ok (.tuple ⟨[]⟩, s') ∧ Ah s' o cb pb (O.tell c hd v true) ∧ Fr s s' (OffE o cb pb e) ∧
  s'.get e = some (.cells [strOf x, .int .i64 (hd : Int), .int .i64 v, .int .i64 (JH O.comps c hd), .bool (JI O.comps c hd)] 193 true) := by
 obtain ⟨m, rfl, _⟩ := Ac (show 1 ≤ n by omega)
 obtain ⟨b, rfl⟩ := h.KL hcl
 obtain ⟨s1, d1, x1⟩ := k93 m s o _ _ O h (by omega) hlen x
 rw [hc] at d1
 have h1 := h.ext x1
 have hl1 := Nat.lt_of_lt_of_le hl x1.nx
 have he1 : s1.get e = _ := (x1.get e hl).trans he
 obtain ⟨cv, rc, ic, _, sc⟩ := h.C
 obtain ⟨s2, w2, he2, f2, n2⟩ := wEnt he1 (i := 3) (v := .int .i64 (JH O.comps c hd)) rfl (by simp)
 have h2 := h1.frE f2 hF
 obtain ⟨s3, w3, he3, f3, n3⟩ := wEnt he2 (i := 4) (v := .bool (JI O.comps c hd)) rfl (by simp)
 have h3 := h2.frE f3 hF
 obtain ⟨s4, w4, h4, f4, n4⟩ := h3.GV hcl hk v
 obtain ⟨s5, w5, h5, f5, n5⟩ := h4.wTold (j := c) (by show c < (setCard _ _ _ _).length; rw [F5]; exact hcl) hk true
 refine ⟨s5, ?_, h5, ?_, ?_⟩
 · rw [Ap 185 c185 rfl, mZ]
   have re : s.rd1 e 0 = some (strOf x) := by rw [Ai he]; rfl
   have re1 : s1.rd1 e 1 = some (.int .i64 (hd : Int)) := by rw [Ai he1]; rfl
   have re3 : s3.rd1 e 1 = some (.int .i64 (hd : Int)) := by rw [Ai he3]; rfl
   have rv3 : s3.rd1 e 2 = some (.int .i64 v) := by rw [Ai he3]; rfl
   have r15 := h1.rdCard hcl hk
   have r22 := h1.rdTold hcl hk
   have a5 : ∀ j, Ad 5 (.pointer (some ⟨b, j * 21, none⟩)) = some (.pointer (some ⟨b, j * 21 + 5, none⟩)) := fun j => rfl
   have a13 : ∀ j, Ad 13 (.pointer (some ⟨b, j * 21, none⟩)) = some (.pointer (some ⟨b, j * 21 + 13, none⟩)) := fun j => rfl
   have i5 : ∀ j, CY 8 1 (.pointer (some ⟨b, j * 21 + 5, none⟩)) (.int .i64 (hd : Int)) = some (.pointer (some ⟨b, j * 21 + (5 + hd), none⟩)) := fun j => by rw [FP _ _ _ _ _ _ hk, Nat.mul_one, Nat.add_assoc]
   have i13 : ∀ j, CY 8 1 (.pointer (some ⟨b, j * 21 + 13, none⟩)) (.int .i64 (hd : Int)) = some (.pointer (some ⟨b, j * 21 + (13 + hd), none⟩)) := fun j => by rw [FP _ _ _ _ _ _ hk, Nat.mul_one, Nat.add_assoc]
   have nb1 : Nat.ble s.nx s1.nx = true := Ae.2 x1.nx
   have nb2 : Nat.ble s1.nx s2.nx = true := Ae.2 (by omega)
   have nb3 : Nat.ble s2.nx s3.nx = true := Ae.2 (by omega)
   have nb4 : Nat.ble s3.nx s4.nx = true := Ae.2 (by omega)
   have nb5 : Nat.ble s4.nx s5.nx = true := Ae.2 (by omega)
   have ck : CW s (some (.pointer (some ⟨o, 0, none⟩))) (some cv) cv = true := Cm h.lt (h.veqC rc)
   have ck1 : CW s1 (some (.pointer (some ⟨o, 0, none⟩))) (some cv) cv = true := Cm h1.lt (h.veqC rc)
   have rc1 : s1.rd1 o 0 = some cv := by
    have e1 := x1.get o h.lt
    unfold AA.rd1 at rc ⊢
    rw [e1]; exact rc
   simp [re, d1, rc, rc1, ck, ck1, ic c hcl, re1, a5, a13, i5, i13, r15, r22, w2, w3, re3, rv3, w4, w5, nb1, nb2, nb3, nb4, nb5]
 · refine (Fr.of_ext x1 _).tr ((f2.mono fun i hi => .inr hi).tr ((f3.mono fun i hi => .inr hi).tr ((f4.mono fun i hi => .inl hi).tr (f5.mono fun i hi => .inl hi))))
 · rw [f5.get e (by omega) hF, f4.get e (by omega) hF, he3]; rfl
theorem k187 (n : Nat) (h : Ah s o cb pb O) (hn : O.comps.length + 6 ≤ n) (hlen : O.comps.length < 1000000000) (x : List UInt8) (hd : Nat) (hk : hd < 8) (v old : Int) (t : Bool) (e : Nat) (hl : e < s.nx)
 (he : s.get e = some (.cells [strOf x, .int .i64 (hd : Int), .int .i64 v, .int .i64 old, .bool t] 193 true)) (hF : ¬ E5 o cb pb e) (c : Nat) (hc : BZ x O.comps 0 = (c : Int)) (hcl : c < O.comps.length) :
 ∃ s', AU AL Aj n (.fn 187) [.pointer (some ⟨e, 0, none⟩), .pointer (some ⟨o, 0, none⟩)] s = .ok (.tuple ⟨[]⟩, s') ∧ Ah s' o cb pb (O.tell c hd old t) ∧ Fr s s' (E5 o cb pb) := by
 obtain ⟨m, rfl, _⟩ := Ac (show 1 ≤ n by omega)
 obtain ⟨b, rfl⟩ := h.KL hcl
 obtain ⟨s1, d1, x1⟩ := k93 m s o _ _ O h (by omega) hlen x
 rw [hc] at d1
 have h1 := h.ext x1
 have hl1 := Nat.lt_of_lt_of_le hl x1.nx
 have he1 : s1.get e = _ := (x1.get e hl).trans he
 obtain ⟨cv, rc, ic, _, sc⟩ := h.C
 obtain ⟨s4, w4, h4, f4, n4⟩ := h1.GV hcl hk old
 obtain ⟨s5, w5, h5, f5, n5⟩ := h4.wTold (j := c) (by show c < (setCard _ _ _ _).length; rw [F5]; exact hcl) hk t
 refine ⟨s5, ?_, h5, (Fr.of_ext x1 _).tr (f4.tr f5)⟩
 rw [Ap 187 c187 rfl, nC]
 have re : s.rd1 e 0 = some (strOf x) := by rw [Ai he]; rfl
 have re1 : s1.rd1 e 1 = some (.int .i64 (hd : Int)) := by rw [Ai he1]; rfl
 have ro1 : s1.rd1 e 3 = some (.int .i64 old) := by rw [Ai he1]; rfl
 have rt1 : s1.rd1 e 4 = some (.bool t) := by rw [Ai he1]; rfl
 have a5 : ∀ j, Ad 5 (.pointer (some ⟨b, j * 21, none⟩)) = some (.pointer (some ⟨b, j * 21 + 5, none⟩)) := fun j => rfl
 have a13 : ∀ j, Ad 13 (.pointer (some ⟨b, j * 21, none⟩)) = some (.pointer (some ⟨b, j * 21 + 13, none⟩)) := fun j => rfl
 have i5 : ∀ j, CY 8 1 (.pointer (some ⟨b, j * 21 + 5, none⟩)) (.int .i64 (hd : Int)) = some (.pointer (some ⟨b, j * 21 + (5 + hd), none⟩)) := fun j => by rw [FP _ _ _ _ _ _ hk, Nat.mul_one, Nat.add_assoc]
 have i13 : ∀ j, CY 8 1 (.pointer (some ⟨b, j * 21 + 13, none⟩)) (.int .i64 (hd : Int)) = some (.pointer (some ⟨b, j * 21 + (13 + hd), none⟩)) := fun j => by rw [FP _ _ _ _ _ _ hk, Nat.mul_one, Nat.add_assoc]
 have nb1 : Nat.ble s.nx s1.nx = true := Ae.2 x1.nx
 have nb4 : Nat.ble s1.nx s4.nx = true := Ae.2 (by omega)
 have nb5 : Nat.ble s4.nx s5.nx = true := Ae.2 (by omega)
 have ck : CW s (some (.pointer (some ⟨o, 0, none⟩))) (some cv) cv = true := Cm h.lt (h.veqC rc)
 have ck1 : CW s1 (some (.pointer (some ⟨o, 0, none⟩))) (some cv) cv = true := Cm h1.lt (h.veqC rc)
 have rc1 : s1.rd1 o 0 = some cv := by
  have e1 := x1.get o h.lt
  unfold AA.rd1 at rc ⊢
  rw [e1]; exact rc
 simp [re, d1, rc, rc1, ck, ck1, ic c hcl, re1, ro1, rt1, a5, a13, i5, i13, w4, w5, nb1, nb4, nb5]
def Off.mend (O : Off) (c k : Nat) : Off :=
 let p := partAt O.comps c k
 Off.add ⟨O.comps, setH O.parts p (-1)⟩ c k (D7 (setH O.parts p (-1)) p)
theorem k57 (n : Nat) (h : Ah s o cb pb O) (hn : O.comps.length + 6 ≤ n) (hlen : O.comps.length < 1000000000) (hlp : O.parts.length < 1000000) (x : List UInt8) (k : Nat) (hk : k < 4) (u : Value) (e : Nat) (hl : e < s.nx)
 (he : s.get e = some (.cells [strOf x, .int .i64 (k : Int), u] 114 true)) (hF : ¬ E5 o cb pb e) (c : Nat) (hc : BZ x O.comps 0 = (c : Int)) (hcl : c < O.comps.length) (hp : partAt O.comps c k < O.parts.length) :
 ∃ s', AU AL Aj n (.fn 57) [.pointer (some ⟨e, 0, none⟩), .pointer (some ⟨o, 0, none⟩)] s = .ok (.tuple ⟨[]⟩, s') ∧ (∃ cb' pb', Ah s' o cb' pb' (O.mend c k) ∧ ∀ b, E5 o cb' pb' b → E5 o cb pb b ∨ s.nx ≤ b) ∧ Fr s s' (OffE o cb pb e) ∧
  s'.get e = some (.cells [strOf x, .int .i64 (k : Int), .int .i64 (partAt O.comps c k : Int)] 114 true) := by
 obtain ⟨m, rfl, _⟩ := Ac (show 1 ≤ n by omega)
 obtain ⟨b, rfl⟩ := h.KL hcl
 obtain ⟨b', rfl⟩ := h.Ua hp
 obtain ⟨s1, d1, x1⟩ := k93 m s o _ _ O h (by omega) hlen x
 rw [hc] at d1
 have h1 := h.ext x1
 have hl1 := Nat.lt_of_lt_of_le hl x1.nx
 have he1 : s1.get e = _ := (x1.get e hl).trans he
 obtain ⟨p, hpp⟩ : ∃ p, p = partAt O.comps c k := ⟨_, rfl⟩
 obtain ⟨cv, rc, ic, _, sc⟩ := h1.C
 obtain ⟨s2, w2, he2, f2, n2⟩ := wEnt he1 (i := 2) (v := .int .i64 (p : Int)) rfl (by simp)
 have h2 := h1.frE f2 hF
 obtain ⟨pv, rp, ip, _, _⟩ := h2.P
 obtain ⟨s3, w3, h3, f3, n3⟩ := h2.Yg (j := p) (by rw [hpp]; exact hp) (-1)
 obtain ⟨pv3, rp3, ip3, _, _⟩ := h3.P
 have hp3 : p < (setH O.parts p (-1)).length := by rw [D9, hpp]; exact hp
 have rh := h3.rdHome (j := p) hp3
 obtain ⟨s4, d4, p4⟩ := k94' m (by omega) h3 (by show (setH _ _ _).length < _; rw [D9]; exact hlp) c k (D7 (setH O.parts p (-1)) p) hcl hk
 have he3 : s3.get e = _ := (f3.get e (by omega) hF).trans he2
 obtain ⟨cb4, pb4, h4, u4⟩ := p4.ex
 refine ⟨s4, ?_, ⟨cb4, pb4, ?_, fun i hi => ?_⟩, ?_, ?_⟩
 · rw [Ap 57 c57 rfl, f57_eq]
   have re : s.rd1 e 0 = some (strOf x) := by rw [Ai he]; rfl
   have re1 : s1.rd1 e 1 = some (.int .i64 (k : Int)) := by rw [Ai he1]; rfl
   have re2 : s2.rd1 e 2 = some (.int .i64 (p : Int)) := by rw [Ai he2]; rfl
   have re3 : s3.rd1 e 1 = some (.int .i64 (k : Int)) := by rw [Ai he3]; rfl
   have ro3 : s3.rd1 e 2 = some (.int .i64 (p : Int)) := by rw [Ai he3]; rfl
   have hrc := h1.QM hcl hk
   rw [← hpp] at hrc
   have a1 : ∀ j, Ad 1 (.pointer (some ⟨b, j * 21, none⟩)) = some (.pointer (some ⟨b, j * 21 + 1, none⟩)) := fun j => rfl
   have a3 : ∀ j, CY 4 1 (.pointer (some ⟨b, j * 21 + 1, none⟩)) (.int .i64 (k : Int)) = some (.pointer (some ⟨b, j * 21 + (1 + k), none⟩)) := fun j => by rw [FP _ _ _ _ _ _ hk, Nat.mul_one, Nat.add_assoc]
   have ipp := ip p (by rw [hpp]; exact hp)
   have ipp3 := ip3 p hp3
   have nb1 : Nat.ble s1.nx s2.nx = true := Ae.2 (by omega)
   have nb2 : Nat.ble s2.nx s3.nx = true := Ae.2 (by omega)
   have nb3 : Nat.ble s3.nx s4.nx = true := Ae.2 p4.fr.nx
   simp [re, d1, rc, ic c hcl, re1, a1, a3, hrc, w2, rp, re2, ipp, w3, re3, rp3, ro3, ipp3, rh, d4, nb1, nb2, nb3]
 · unfold Off.mend; simp only [← hpp]; exact h4
 · rcases u4 i hi with h5 | h5
   · exact .inl h5
   · exact .inr (by have := x1.nx; omega)
 · exact (Fr.of_ext x1 _).tr ((f2.mono fun i hi => .inr hi).tr ((f3.mono fun i hi => .inl hi).tr (p4.fr.mono fun i hi => .inl hi)))
 · rw [p4.fr.get e (by omega) hF, he3, ← hpp]; rfl
def Off.unmend (O : Off) (c k old : Nat) : Off := ⟨setPart O.comps c k old, setH (O.parts.take (O.parts.length - 1)) old c⟩
theorem k189 (n : Nat) (h : Ah s o cb pb O) (hn : O.comps.length + 6 ≤ n) (hlen : O.comps.length < 1000000000) (hlp : O.parts.length < 1000000) (x : List UInt8) (k : Nat) (hk : k < 4) (old : Nat) (e : Nat) (hl : e < s.nx)
 (he : s.get e = some (.cells [strOf x, .int .i64 (k : Int), .int .i64 (old : Int)] 114 true)) (hF : ¬ E5 o cb pb e) (c : Nat) (hc : BZ x O.comps 0 = (c : Int)) (hcl : c < O.comps.length) (hp : old + 1 < O.parts.length) :
 ∃ s', AU AL Aj n (.fn 189) [.pointer (some ⟨e, 0, none⟩), .pointer (some ⟨o, 0, none⟩)] s = .ok (.tuple ⟨[]⟩, s') ∧ Ah s' o cb pb (O.unmend c k old) ∧ Fr s s' (E5 o cb pb) := by
 obtain ⟨m, rfl, _⟩ := Ac (show 1 ≤ n by omega)
 obtain ⟨b, rfl⟩ := h.KL hcl
 obtain ⟨b', rfl⟩ := h.Ua hp
 obtain ⟨s1, d1, x1⟩ := k93 m s o _ _ O h (by omega) hlen x
 rw [hc] at d1
 have h1 := h.ext x1
 have hl1 := Nat.lt_of_lt_of_le hl x1.nx
 have he1 : s1.get e = _ := (x1.get e hl).trans he
 obtain ⟨pv, pv', s2, r1, e1, w2, h2, f2, n2, l1⟩ := h1.kE (k := O.parts.length - 1) (by omega)
 have hol : old < (O.parts.take (O.parts.length - 1)).length := by simp; omega
 obtain ⟨pv2, rp2, ip2, _, _⟩ := h2.P
 obtain ⟨s3, w3, h3, f3, n3⟩ := h2.Yg (j := old) hol c
 obtain ⟨cv, rc, ic, _, sc⟩ := h3.C
 obtain ⟨s4, w4, h4, f4, n4⟩ := h3.kD hcl hk old
 have he2 : s2.get e = _ := (f2.get e (by omega) hF).trans he1
 have he3 : s3.get e = _ := (f3.get e (by omega) hF).trans he2
 refine ⟨s4, ?_, h4, (Fr.of_ext x1 _).tr (f2.tr (f3.tr f4))⟩
 rw [Ap 189 c189 rfl, nG]
 have re : s.rd1 e 0 = some (strOf x) := by rw [Ai he]; rfl
 have re2 : s2.rd1 e 2 = some (.int .i64 (old : Int)) := by rw [Ai he2]; rfl
 have re3 : s3.rd1 e 1 = some (.int .i64 (k : Int)) := by rw [Ai he3]; rfl
 have ro3 : s3.rd1 e 2 = some (.int .i64 (old : Int)) := by rw [Ai he3]; rfl
 have a1 : ∀ j, Ad 1 (.pointer (some ⟨b, j * 21, none⟩)) = some (.pointer (some ⟨b, j * 21 + 1, none⟩)) := fun j => rfl
 have a3 : ∀ j, CY 4 1 (.pointer (some ⟨b, j * 21 + 1, none⟩)) (.int .i64 (k : Int)) = some (.pointer (some ⟨b, j * 21 + (1 + k), none⟩)) := fun j => by rw [FP _ _ _ _ _ _ hk, Nat.mul_one, Nat.add_assoc]
 have i1 : Az .i64 ((O.parts.length : Int) - 1) = ((O.parts.length - 1 : Nat) : Int) := by rw [wrap64 (by omega)]; omega
 have ipp2 := ip2 old hol
 have nb1 : Nat.ble s1.nx s2.nx = true := Ae.2 (by omega)
 have nb2 : Nat.ble s2.nx s3.nx = true := Ae.2 (by omega)
 have nb3 : Nat.ble s3.nx s4.nx = true := Ae.2 (by omega)
 simp [re, d1, r1, l1, i1, e1, w2, rp2, re2, ipp2, w3, re3, ro3, rc, ic c hcl, a1, a3, w4, nb1, nb2, nb3]
end
end Go.Im

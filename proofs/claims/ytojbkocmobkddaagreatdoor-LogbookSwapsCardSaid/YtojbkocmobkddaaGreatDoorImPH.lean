/- Memory on the ideal machine: arrays that grow. -/
import Derived.Test.YtojbkocmobkddaaGreatDoorImPC
set_option linter.all false
set_option maxRecDepth 100000
namespace Go.Im
theorem flat_length {α β : Type} (f : α → List β) (w : Nat) : ∀ l : List α, (∀ a ∈ l, (f a).length = w) → (l.flatMap f).length = l.length * w
 | [], _ => by simp
 | a :: l, h => by
  rw [List.flatMap_cons, List.length_append, h a (by simp), flat_length f w l (fun b hb => h b (by simp [hb])), List.length_cons, Nat.succ_mul]; omega
theorem flat_get {α β : Type} (f : α → List β) (w : Nat) : ∀ (l : List α) (j i : Nat) (a : α), (∀ a ∈ l, (f a).length = w) → l[j]? = some a → i < w → (l.flatMap f)[j * w + i]? = (f a)[i]?
 | [], j, i, a, _, h, _ => by simp at h
 | b :: l, 0, i, a, hw, h, hi => by
  simp at h; subst h
  rw [List.flatMap_cons, Nat.zero_mul, Nat.zero_add, List.getElem?_append_left (by rw [hw b (by simp)]; exact hi)]
 | b :: l, j + 1, i, a, hw, h, hi => by
  simp at h
  have hb := hw b (by simp)
  rw [List.flatMap_cons, List.getElem?_append_right (by rw [hb, Nat.succ_mul]; omega), hb, Nat.succ_mul, show j * w + w + i - w = j * w + i by omega]
  exact flat_get f w l j i a (fun c hc => hw c (by simp [hc])) h hi
theorem Ph {α β : Type} (f : α → List β) (w : Nat) : ∀ (l : List α) (j i : Nat) (a a' : α) (v : β), (∀ a ∈ l, (f a).length = w) → l[j]? = some a → i < w → f a' = (f a).set i v → (l.flatMap f).set (j * w + i) v = (l.set j a').flatMap f
 | [], j, i, a, a', v, _, h, _, _ => by simp at h
 | b :: l, 0, i, a, a', v, hw, h, hi, he => by
  simp at h; subst h
  rw [List.set_cons_zero, List.flatMap_cons, List.flatMap_cons, Nat.zero_mul, Nat.zero_add, List.set_append_left _ _ (by rw [hw b (by simp)]; exact hi), he]
 | b :: l, j + 1, i, a, a', v, hw, h, hi, he => by
  simp at h
  have hb := hw b (by simp)
  rw [List.set_cons_succ, List.flatMap_cons, List.flatMap_cons, List.set_append_right _ _ (by rw [hb, Nat.succ_mul]; omega), hb, Nat.succ_mul, show j * w + w + i - w = j * w + i by omega]
  rw [Ph f w l j i a a' v (fun c hc => hw c (by simp [hc])) h hi he]
theorem Md {α β : Type} (f : α → List β) (w : Nat) : ∀ (l : List α) (k : Nat), (∀ a ∈ l, (f a).length = w) → (l.flatMap f).take (k * w) = (l.take k).flatMap f
 | [], k, _ => by simp
 | b :: l, 0, _ => by simp
 | b :: l, k + 1, hw => by
  have hb := hw b (by simp)
  rw [List.flatMap_cons, List.take_succ_cons, List.flatMap_cons, Nat.succ_mul, List.take_append, hb, show k * w + w - w = k * w by omega, List.take_of_length_le (by rw [hb]; omega), Md f w l k (fun c hc => hw c (by simp [hc]))]
theorem TD {v : Value} (h : simple v = true) : cellsOf v = [v] := by cases v <;> first | rfl | (simp [simple] at h)
theorem Me {s : A8} {b : Nat} {c : List Value} {el : Nat} (h : s.get b = some (.cells c el true)) {o : Nat} {v : Value} (hv : simple v = true) (ho : o < c.length) :
 wSt s 1 v (.pointer (some ⟨b, o, none⟩)) = some (BX, s.put b (.cells (c.set o v) el true)) := by
 have e := TD hv
 have := Gq (s := s) (b := b) (c := c) (el := el) h (o := o) (n := 1) (v := v) (by rw [e]; rfl) (by rw [e]; show cond (simple v) true false = true; rw [hv]; rfl) ho
 rw [e] at this
 rw [this, List.set_eq_take_append_cons_drop, if_pos ho]; rfl
def Bc (s : A8) (base : Option Nat) (el w : Nat) (cs : List Value) (len : Nat) (v : Value) : Prop :=
 match base with
 | none => v = .slice none 0 0 ∧ len = 0 ∧ cs = []
 | some b => v = .slice (some ⟨b, 0, none⟩) len UNK ∧ b < s.nx ∧ ∃ full, s.get b = some (.cells full el true) ∧ full.take (len * w) = cs ∧ len * w ≤ full.length
section
variable {s : A8} {base : Option Nat} {el w len : Nat} {cs : List Value} {v : Value}
theorem Bc.frame {s' : A8} (h : Bc s base el w cs len v) (hn : s.nx ≤ s'.nx) (hg : ∀ b, base = some b → s'.get b = s.get b) : Bc s' base el w cs len v := by
 cases base with
 | none => exact h
 | some b =>
  obtain ⟨h1, h2, full, h3, h4⟩ := h
  exact ⟨h1, by omega, full, (hg b rfl).trans h3, h4⟩
theorem Bc.len_eq (h : Bc s base el w cs len v) : Ce v = some (.int .i64 (len : Int)) := by
 cases base with
 | none => obtain ⟨rfl, rfl, _⟩ := h; rfl
 | some b => obtain ⟨rfl, _⟩ := h; rfl
theorem Bc.simple (h : Bc s base el w cs len v) : simple v = true := by
 cases base with
 | none => obtain ⟨rfl, _⟩ := h; rfl
 | some b => obtain ⟨rfl, _⟩ := h; rfl
theorem Bc.RJ (h : Bc s base el w cs len v) : cs.length = len * w := by
 cases base with
 | none => obtain ⟨_, rfl, rfl⟩ := h; simp
 | some b => obtain ⟨_, _, full, _, h1, h2⟩ := h; rw [← h1, List.length_take]; omega
theorem Bc.get (h : Bc s base el w cs len v) {i : Nat} {x : Value} (hx : cs[i]? = some x) : ∃ b, base = some b ∧ s.rd1 b i = some x := by
 cases base with
 | none => obtain ⟨_, _, rfl⟩ := h; simp at hx
 | some b =>
  obtain ⟨_, _, full, h1, h2, _⟩ := h
  refine ⟨b, rfl, ?_⟩
  rw [Ag h1]
  rw [← h2, List.getElem?_take] at hx
  split at hx
  · exact hx
  · cases hx
theorem Bc.iad (h : Bc s base el w cs len v) (j : Nat) (hj : j < len) (k : IntKind) : ∃ b, base = some b ∧ BN w v (.int k (j : Int)) = some (.pointer (some ⟨b, j * w, none⟩)) := by
 cases base with
 | none => obtain ⟨_, rfl, _⟩ := h; omega
 | some b =>
  obtain ⟨rfl, _⟩ := h
  exact ⟨b, rfl, by rw [Le _ _ _ _ _ _ _ hj, Nat.zero_add]⟩
theorem Bc.set (h : Bc s base el w cs len v) {i : Nat} (hi : i < len * w) {x : Value} (hx : Go.Im.simple x = true) : ∃ b full, base = some b ∧ s.get b = some (.cells full el true) ∧ wSt s 1 x (.pointer (some ⟨b, i, none⟩)) = some (BX, s.put b (.cells (full.set i x) el true)) ∧
 Bc (s.put b (.cells (full.set i x) el true)) base el w (cs.set i x) len v := by
 cases base with
 | none => obtain ⟨_, rfl, _⟩ := h; omega
 | some b =>
  obtain ⟨rfl, h0, full, h1, h2, h3⟩ := h
  refine ⟨b, full, rfl, h1, Me h1 hx (by omega), rfl, h0, _, by rw [A8.get_put, if_pos rfl], ?_, by simpa using h3⟩
  rw [← h2, List.take_set]
theorem Bc.trunc (h : Bc s base el w cs len v) (hw : 1 ≤ w) {k : Nat} (hk : k ≤ len) (kk : IntKind) : ∃ v', rSl s el w none (some (.int kk (k : Int))) none v = some v' ∧ Bc s base el w (cs.take (k * w)) k v' := by
 cases base with
 | none =>
  obtain ⟨rfl, rfl, rfl⟩ := h
  obtain rfl : k = 0 := by omega
  exact ⟨.slice none 0 0, rfl, rfl, rfl, by simp⟩
 | some b =>
  obtain ⟨rfl, h0, full, h1, h2, h3⟩ := h
  have hkw : k * w ≤ len * w := Nat.mul_le_mul_right _ hk
  refine ⟨.slice (some ⟨b, 0, none⟩) k UNK, ?_, rfl, h0, full, h1, by rw [← h2, List.take_take, Nat.min_eq_left hkw], by omega⟩
  have u1 : Nat.blt UNK UNK = false := by decide
  have u2 : Nat.beq UNK UNE = false := by decide
  have u0 : rSl s el w none (some (.int kk (k : Int))) none (.slice (some ⟨b, 0, none⟩) len UNK) = cond (Nat.blt UNK UNK) (Gu ⟨b, 0, none⟩ w len UNK none (some (.int kk (k : Int))) none) (cond (Nat.beq UNK UNE) none (QT ⟨b, 0, none⟩ el w len none (some (.int kk (k : Int))) none (s.get b))) := rfl
  have u3 : QT ⟨b, 0, none⟩ el w len none (some (.int kk (k : Int))) none (some (.cells full el true)) = cond (Nat.beq el el) (OQ ⟨b, 0, none⟩ w len full.length none (some (.int kk (k : Int))) none) none := rfl
  have u4 : OQ ⟨b, 0, none⟩ w len full.length none (some (.int kk (k : Int))) none = ob (bound len (Nat.div (Nat.sub full.length 0) w) (some (.int kk (k : Int)))) fun h' => ob (bound 0 h' none) fun l' => cond (Nat.beq l' 0) (some (.slice (some ⟨b, 0, none⟩) h' UNK)) (cond (Nat.blt (Nat.add 0 (Nat.mul l' w)) full.length) (some (.slice (some (EX ⟨b, 0, none⟩ (Nat.mul l' w))) (Nat.sub h' l') UNK))
   (cond (Nat.beq h' l') (some (.slice (some ⟨0, 0, none⟩) 0 UNE)) none)) := rfl
  rw [u0, u1, u2, h1]
  simp only [cond_false]
  rw [u3, FY rfl, cond_true, u4]
  have hb : k ≤ Nat.div (Nat.sub full.length 0) w := by
   show k ≤ (full.length - 0) / w
   rw [Nat.le_div_iff_mul_le (by omega)]; omega
  rw [KT hb]
  rfl
theorem Bc.push (h : Bc s base el w cs len v) (hw : 1 ≤ w) {by_ : Nat} (hby : (len + 1) * by_ ≤ 140737488355328) (hlen : len + 1 < UNK) {news : List Value} (hn : news.length = w) (hs : Ba news = true) {x : Value} (hx : Cc s w x = some news) :
 ∃ v' s' base', Df s el w by_ v x = some (v', s') ∧ Bc s' base' el w (cs ++ news) (len + 1) v' ∧ (base' = base ∨ base' = some s.nx) ∧ s.nx ≤ s'.nx ∧ (∀ i, i < s.nx → base ≠ some i → s'.get i = s.get i) := by
 have hd : Nat.div news.length w = 1 := by rw [hn]; exact Nat.div_self (by omega)
 have hgo : ∀ (bs : Option Addr) (l cap : Nat), l = len → Ei s el w by_ news (.slice bs l cap) = J4 s el w len cap 1 (len + 1) news bs := by
  intro bs l cap e
  subst e
  show cond (Nat.beq w 0) none (cond (Nat.ble (Nat.mul (Nat.add l (Nat.div news.length w)) by_) 140737488355328 && Nat.blt (Nat.add l (Nat.div news.length w)) UNK) (J4 s el w l cap (Nat.div news.length w) (Nat.add l (Nat.div news.length w)) news bs) none) = _
  rw [Gv (by omega), hd]
  have a1 : Nat.ble (Nat.mul (Nat.add l 1) by_) 140737488355328 = true := Aa.2 hby
  have a2 : Nat.blt (Nat.add l 1) UNK = true := Bh.2 hlen
  rw [a1, a2]; rfl
 have happ : Df s el w by_ v x = Ei s el w by_ news v := by
  show ob (Cc s w x) (fun news => Ei s el w by_ news v) = _
  rw [hx]; rfl
 rw [happ]
 cases base with
 | none =>
  obtain ⟨rfl, rfl, rfl⟩ := h
  rw [hgo none 0 0 rfl]
  refine ⟨.slice (some ⟨s.nx, 0, none⟩) 1 UNK, s.new (.cells news el true), some s.nx, rfl, ⟨rfl, by simp, news, by rw [A8.Af, if_pos rfl], ?_, by rw [hn]; omega⟩, .inr rfl, by simp, fun i hi _ => by rw [A8.Af, if_neg (by omega)]⟩
  rw [List.take_of_length_le (by rw [hn]; omega)]; rfl
 | some b =>
  have hcl := h.RJ
  obtain ⟨rfl, h0, full, h1, h2, h3⟩ := h
  rw [hgo (some ⟨b, 0, none⟩) len UNK rfl]
  have e1 : J4 s el w len UNK 1 (len + 1) news (some ⟨b, 0, none⟩) = MG s ⟨b, 0, none⟩ el w len (len + 1) news (s.get b) := rfl
  rw [e1, h1]
  show ∃ v' s' base', cond (Nat.beq el el) (cond (Nat.ble (Nat.add 0 (Nat.mul (len + 1) w)) full.length) (Ju s ⟨b, 0, none⟩ w len UNK (len + 1) news) (cond (Ba news) (ob (sub full 0 (Nat.mul len w)) fun old => some (Dc (s.put b .dead) el (len + 1) old news)) none)) none = some (v', s') ∧ _
  rw [FY rfl, hs]
  by_cases hroom : (len + 1) * w ≤ full.length
  · have a1 : Nat.ble (Nat.add 0 (Nat.mul (len + 1) w)) full.length = true := Aa.2 (by show 0 + (len + 1) * w ≤ _; omega)
    rw [a1]
    have hwr := fG (s := s) (b := b) (c := full) (el := el) h1 (o := len * w) (vs := news) hs (by rw [hn]; rw [Nat.succ_mul] at hroom; exact hroom)
    have a2 : Ju s ⟨b, 0, none⟩ w len UNK (len + 1) news = some (.slice (some ⟨b, 0, none⟩) (len + 1) UNK, s.put b (.cells (full.take (len * w) ++ (news ++ full.drop (len * w + news.length))) el true)) := by
     show ob (s.wr b (Nat.add 0 (Nat.mul len w)) news) _ = _
     have : Nat.add 0 (Nat.mul len w) = len * w := by show 0 + len * w = _; omega
     rw [this, hwr]; rfl
    refine ⟨_, _, some b, a2, ⟨rfl, h0, _, by rw [A8.get_put, if_pos rfl], ?_, ?_⟩, .inl rfl, Nat.le_refl _, fun i hi hb => by rw [A8.get_put, if_neg (fun e => hb (by rw [e]))]⟩
    · rw [h2, ← List.append_assoc, List.take_left' (by rw [List.length_append, hcl, hn, Nat.succ_mul])]
    · rw [h2, List.length_append, List.length_append, hcl, hn, Nat.succ_mul]; omega
  · have a1 : Nat.ble (Nat.add 0 (Nat.mul (len + 1) w)) full.length = false := by
     cases hb : Nat.ble (Nat.add 0 (Nat.mul (len + 1) w)) full.length with
     | false => rfl
     | true =>
      have := Aa.1 hb
      have : 0 + (len + 1) * w ≤ full.length := this
      omega
    rw [a1]
    have a2 : sub full 0 (Nat.mul len w) = some cs := by
     show cond (Nat.ble (Nat.add 0 (Nat.mul len w)) full.length) (some ((full.drop 0).take (Nat.mul len w))) none = _
     have : Nat.ble (Nat.add 0 (Nat.mul len w)) full.length = true := Aa.2 (by show 0 + len * w ≤ _; omega)
     rw [this, List.drop_zero]
     exact congrArg some h2
    rw [a2]
    refine ⟨.slice (some ⟨s.nx, 0, none⟩) (len + 1) UNK, (s.put b .dead).new (.cells (cs ++ news) el true), some s.nx, rfl, ⟨rfl, by simp, cs ++ news, by rw [A8.Af]; simp, ?_, ?_⟩, .inr rfl, by simp, fun i hi hb => ?_⟩
    · rw [List.take_of_length_le (by rw [List.length_append, hcl, hn, Nat.succ_mul]; omega)]
    · rw [List.length_append, hcl, hn, Nat.succ_mul]; omega
    · rw [A8.Af, if_neg (by simp; omega), A8.get_put, if_neg (fun e => hb (by rw [e]))]
end
end Go.Im
set_option maxRecDepth 100000
namespace Go.Im
structure Bj where
 name : List UInt8
 parts : List Nat
 card : List Int
 told : List Bool
def Bj.ok (c : Bj) : Prop := c.parts.length = 4 ∧ c.card.length = 8 ∧ c.told.length = 8
def iV (n : Int) : Value := .int .i64 n
def BR (c : Bj) : List Value := strOf c.name :: (c.parts.map (fun n : Nat => iV (n : Int)) ++ (c.card.map iV ++ c.told.map Value.bool))
theorem DW {c : Bj} (h : c.ok) : (BR c).length = 21 := by
 obtain ⟨h1, h2, h3⟩ := h
 simp [BR, h1, h2, h3]
def Ht (p : Int × Int) : List Value := [iV p.1, iV p.2]
structure Off where
 comps : List Bj
 parts : List (Int × Int)
structure AY (s : A8) (o : Nat) (cb pb : Option Nat) (O : Off) : Prop where
 lt : o < s.nx
 ex : ∃ cv pv, s.get o = some (.cells [cv, pv] 95 true) ∧ Bc s cb 120 21 (O.comps.flatMap BR) O.comps.length cv ∧ Bc s pb 116 2 (O.parts.flatMap Ht) O.parts.length pv
 ok : ∀ c ∈ O.comps, c.ok
 co : cb ≠ some o
 po : pb ≠ some o
 cp : ∀ b, cb = some b → pb ≠ some b
theorem AY.frame {s s' : A8} {o : Nat} {cb pb : Option Nat} {O : Off} (h : AY s o cb pb O) (hn : s.nx ≤ s'.nx) (hg : ∀ b, (b = o ∨ cb = some b ∨ pb = some b) → s'.get b = s.get b) : AY s' o cb pb O := by
 obtain ⟨cv, pv, h1, h2, h3⟩ := h.ex
 exact ⟨Nat.lt_of_lt_of_le h.lt hn, ⟨cv, pv, (hg o (.inl rfl)).trans h1, h2.frame hn fun b e => hg b (.inr (.inl e)), h3.frame hn fun b e => hg b (.inr (.inr e))⟩, h.ok, h.co, h.po, h.cp⟩
theorem Bc.lt {s : A8} {base : Option Nat} {el w len : Nat} {cs : List Value} {v : Value} (h : Bc s base el w cs len v) {b : Nat} (e : base = some b) : b < s.nx := by
 subst e; exact h.2.1
theorem AY.ext {s s' : A8} {o : Nat} {cb pb : Option Nat} {O : Off} (h : AY s o cb pb O) (e : Ext s s') : AY s' o cb pb O := by
 obtain ⟨cv, pv, h1, h2, h3⟩ := h.ex
 refine h.frame e.nx fun b hb => e.get b ?_
 rcases hb with rfl | hb | hb
 · exact h.lt
 · exact h2.lt hb
 · exact h3.lt hb
def BJ (x : List UInt8) : List Bj → Nat → Int
 | [], _ => -1
 | c :: l, i => if c.name = x then (i : Int) else BJ x l (i + 1)
theorem Fz {s : A8} {b o n : Nat} {l : List Value} (h : s.rd b o n = some l) : DT s n (.pointer (some ⟨b, o, none⟩)) = some (.agg ⟨l⟩) := by
 show ob (s.rd b o n) _ = _
 rw [h]; rfl
theorem Bc.rd {s : A8} {b el w len : Nat} {cs : List Value} {v : Value} (h : Bc s (some b) el w cs len v) {o n : Nat} (hl : o + n ≤ len * w) : s.rd b o n = some ((cs.drop o).take n) := by
 obtain ⟨_, _, full, h1, h2, h3⟩ := h
 rw [Eb h1 (by omega), ← h2, List.drop_take, List.take_take, Nat.min_eq_left (by omega)]
theorem FC {α β : Type} (f : α → List β) (w : Nat) : ∀ (l : List α) (j : Nat) (a : α), (∀ a ∈ l, (f a).length = w) → l[j]? = some a → ((l.flatMap f).drop (j * w)).take w = f a
 | [], j, a, _, h => by simp at h
 | b :: l, 0, a, hw, h => by
  simp at h; subst h
  rw [List.flatMap_cons, Nat.zero_mul, List.drop_zero, List.take_left' (hw b (by simp))]
 | b :: l, j + 1, a, hw, h => by
  simp at h
  have hb := hw b (by simp)
  have e : (j + 1) * w = (f b).length + j * w := by rw [Nat.succ_mul, hb]; omega
  rw [List.flatMap_cons, e, ← List.drop_drop, List.drop_left]
  exact FC f w l j a (fun c hc => hw c (by simp [hc])) h
theorem k124 (n : Nat) (hn : 1 ≤ n) (c : Bj) (x : List UInt8) (s : A8) (p : Nat) (hp : s.get p = some (.cells [strOf x] 9 true)) (hlt : p < s.nx) : Gives (AU AB Ah n (.fn 124) [.agg ⟨BR c⟩, .pointer (some ⟨p, 0, none⟩)] s) s (.bool (decide (c.name = x))) := by
 obtain ⟨m, rfl, _⟩ := Ae hn
 refine ⟨s.new (.cells (BR c) 120 true), ?_, (Ext.refl s).new _⟩
 rw [Au 124 c124 rfl, jM]
 have e : cellsOf (.agg ⟨BR c⟩) = BR c := rfl
 have r1 : (s.new (.cells (BR c) 120 true)).rd1 s.nx 0 = some (strOf c.name) := by rw [Ag (by rw [A8.Af, if_pos rfl])]; rfl
 have r2 : (s.new (.cells (BR c) 120 true)).rd1 p 0 = some (strOf x) := by rw [Ag (by rw [A8.Af, if_neg (by omega)]; exact hp)]; rfl
 have q : Az .eql (strOf c.name) (strOf x) = some (.bool (decide (c.name = x))) := by unfold strOf; rw [Fb]; rfl
 simp [e, r1, r2, q]
theorem Yj (n : Nat) (hn : 1 ≤ n) (C : List Bj) (hC : ∀ c ∈ C, c.ok) (hlen : C.length < 1000000000) (x : List UInt8) (p : Nat) (v : Value) (cb : Option Nat) : ∀ (k q f : Nat) (s : A8), C.length - q ≤ k → k < f → q ≤ C.length →
 Bc s cb 120 21 (C.flatMap BR) C.length v → s.get p = some (.cells [strOf x] 9 true) → p < s.nx →
 Gives (LY Ro (AU AB Ah n) n f v (.func (.func 124) ⟨[]⟩ ⟨[.pointer (some ⟨p, 0, none⟩)]⟩) (.int .i64 (C.length : Int)) (.int .i64 (q : Int)) s) s (.int .i64 (BJ x (C.drop q) q)) := by
 intro k
 induction k with
 | zero =>
  intro q f s hk hf hq hA hp hlt
  obtain ⟨f, rfl, _⟩ := Ae hf
  refine ⟨s, ?_, .refl s⟩
  rw [KX Ro rfl, List.drop_eq_nil_of_le (by omega)]
  have : ¬ (q : Int) < (C.length : Int) := by omega
  simp [this, BJ]
 | succ k ih =>
  intro q f s hk hf hq hA hp hlt
  obtain ⟨f, rfl, _⟩ := Ae hf
  by_cases hqlt : q < C.length
  · obtain ⟨c, hc⟩ : ∃ c, C[q]? = some c := ⟨_, List.getElem?_eq_getElem hqlt⟩
    have hdrop : C.drop q = c :: C.drop (q + 1) := by
     rw [List.drop_eq_getElem_cons hqlt]
     congr 1
     rw [List.getElem?_eq_getElem hqlt] at hc
     exact Option.some.inj hc
    obtain ⟨b, rfl, hi⟩ := hA.iad q hqlt .i64
    have hrd : s.rd b (q * 21) 21 = some (BR c) := by
     rw [hA.rd (by have : (q + 1) * 21 ≤ C.length * 21 := Nat.mul_le_mul_right _ hqlt; omega), FC BR 21 C q c (fun a ha => DW (hC a ha)) hc]
    obtain ⟨s1, d1, x1⟩ := k124 n hn c x s p hp hlt
    have d1' : Dj (AU AB Ah n) [.agg ⟨BR c⟩] s (.func (.func 124) ⟨[]⟩ ⟨[.pointer (some ⟨p, 0, none⟩)]⟩) = .ok (.bool (decide (c.name = x)), s1) := by simpa using d1
    have h0 : (q : Int) < (C.length : Int) := by omega
    rw [KX Ro rfl, hdrop]
    by_cases he : c.name = x
    · refine ⟨s1, ?_, x1⟩
      rw [decide_eq_true he] at d1'
      simp only [Bq, h0, decide_true, cond_true, PO Ro rfl, hi, Ad, BD, bind_ok, Fz hrd, d1', Ar]
      simp [BJ, he]
    · have hw : BL .i64 (Int.add (q : Int) 1) = ((q + 1 : Nat) : Int) := by rw [GN, wrap64 (by omega)]; omega
      obtain ⟨s2, d2, x2⟩ := ih (q + 1) f s1 (by omega) (by omega) (by omega) (hA.frame x1.nx fun b' e => x1.get b' (hA.lt e)) ((x1.get p hlt).trans hp) (Nat.lt_of_lt_of_le hlt x1.nx)
      refine ⟨s2, ?_, x1.trans x2⟩
      rw [decide_eq_false he] at d1'
      simp only [Bq, h0, decide_true, cond_true, PO Ro rfl, hi, Ad, BD, bind_ok, Fz hrd, d1', Ar, cond_false, hw]
      simpa [BJ, he] using d2
  · refine ⟨s, ?_, .refl s⟩
    rw [KX Ro rfl, List.drop_eq_nil_of_le (by omega)]
    have : ¬ (q : Int) < (C.length : Int) := by omega
    simp [this, BJ]
theorem k93 (n : Nat) (s : A8) (o : Nat) (cb pb : Option Nat) (O : Off) (h : AY s o cb pb O) (hn : O.comps.length + 5 ≤ n) (hlen : O.comps.length < 1000000000) (x : List UInt8) :
 Gives (AU AB Ah n (.fn 93) [.pointer (some ⟨o, 0, none⟩), strOf x] s) s (.int .i64 (BJ x O.comps 0)) := by
 obtain ⟨n, rfl⟩ : ∃ m, n = m + 2 := ⟨n - 2, by omega⟩
 have x0 : Ext s (s.new (.cells [strOf x] 9 true)) := (Ext.refl s).new _
 have h' := h.ext x0
 obtain ⟨cv, pv, h1, h2, h3⟩ := h'.ex
 obtain ⟨s1, d1, x1⟩ := Yj n (by omega) O.comps h.ok hlen x s.nx cv cb O.comps.length 0 n _ (by omega) (by omega) (by omega) h2 (by rw [A8.Af, if_pos rfl]) (by simp)
 refine ⟨s1, ?_, x0.trans x1⟩
 have ro : (s.new (.cells [strOf x] 9 true)).rd1 o 0 = some cv := by rw [Ag h1]; rfl
 have e : cellsOf (.string (ofL x)) = [strOf x] := rfl
 rw [show n + 2 = (n + 1) + 1 from rfl, Au 93 c93 rfl]
 show EO AB _ _ c93 [.pointer (some ⟨o, 0, none⟩), .string (ofL x)] s = _
 rw [f93_eq, e]
 simp only [H8, Ad, BD, bind_ok, EC, CS, Nat.zero_add, ro, Eu]
 rw [Au 123 Ny rfl, jL, h2.len_eq]
 simp only [List.drop_zero] at d1
 simp only [Ad, BD, bind_ok]
 have d1 : LY Ro (AU AB Ah n) n n cv (.func (.func 124) ⟨[]⟩ ⟨[.pointer (some ⟨s.nx, 0, none⟩)]⟩) (.int .i64 (O.comps.length : Int)) (.int .i64 0) (s.new (.cells [strOf x] 9 true)) = .ok (.int .i64 (BJ x O.comps 0), s1) := d1
 rw [d1]
 rfl
end Go.Im
set_option maxRecDepth 100000
namespace Go.Im
theorem BA {α : Type} {l : List α} {i : Nat} {x : α} (h : l[i]? = some x) : i < l.length := (List.getElem?_eq_some_iff.1 h).1
structure Fr (s s' : A8) (F : Nat → Prop) : Prop where
 nx : s.nx ≤ s'.nx
 get : ∀ b, b < s.nx → ¬ F b → s'.get b = s.get b
theorem Fr.refl (s : A8) (F : Nat → Prop) : Fr s s F := ⟨Nat.le_refl _, fun _ _ _ => rfl⟩
theorem Fr.of_ext {s s' : A8} (h : Ext s s') (F : Nat → Prop) : Fr s s' F := ⟨h.nx, fun b hb _ => h.get b hb⟩
theorem Fr.trans {a b c : A8} {F G : Nat → Prop} (h : Fr a b F) (k : Fr b c G) (hG : ∀ i, i < a.nx → G i → F i) : Fr a c F := ⟨Nat.le_trans h.nx k.nx, fun i hi hF => (k.get i (Nat.lt_of_lt_of_le hi h.nx) fun hg => hF (hG i hi hg)).trans (h.get i hi hF)⟩
theorem Fr.mono {s s' : A8} {F G : Nat → Prop} (h : Fr s s' F) (hG : ∀ i, F i → G i) : Fr s s' G := ⟨h.nx, fun b hb hg => h.get b hb fun hf => hg (hG b hf)⟩
theorem Fr.put {s : A8} {b : Nat} {o : CQ} {F : Nat → Prop} (hF : F b) : Fr s (s.put b o) F := ⟨Nat.le_refl _, fun i _ hi => by rw [A8.get_put, if_neg (fun e => hi (by rw [e]; exact hF))]⟩
def Di (o : Nat) (cb pb : Option Nat) (b : Nat) : Prop := b = o ∨ cb = some b ∨ pb = some b
@[simp] theorem FU (len n b o i : Nat) (k : IntKind) (h : i < len) : Bo len n (.pointer (some ⟨b, o, none⟩)) (.int k (i : Int)) = some (.pointer (some ⟨b, o + i * n, none⟩)) := by
 show cond (Nat.blt i len) (some (Value.pointer (some (EX ⟨b, o, none⟩ (Nat.mul i n))))) none = _
 rw [Bh.2 h]; rfl
section
variable {s : A8} {o : Nat} {cb pb : Option Nat} {O : Off}
theorem AY.sub (h : AY s o cb pb O) {b : Nat} (hb : Di o cb pb b) : b < s.nx := by
 obtain ⟨cv, pv, h1, h2, h3⟩ := h.ex
 rcases hb with rfl | hb | hb
 · exact h.lt
 · exact h2.lt hb
 · exact h3.lt hb
theorem AY.fr {s' : A8} (h : AY s o cb pb O) {F : Nat → Prop} (k : Fr s s' F) (hF : ∀ b, Di o cb pb b → ¬ F b) : AY s' o cb pb O :=
 h.frame k.nx fun b hb => k.get b (h.sub hb) (hF b hb)
theorem AY.XY (h : AY s o cb pb O) {j i : Nat} {c c' : Bj} {x : Value} (hc : O.comps[j]? = some c) (hi : i < 21) (hx : simple x = true) (hc' : c'.ok) (he : BR c' = (BR c).set i x) :
 ∃ b s', cb = some b ∧ wSt s 1 x (.pointer (some ⟨b, j * 21 + i, none⟩)) = some (BX, s') ∧ AY s' o cb pb ⟨O.comps.set j c', O.parts⟩ ∧ Fr s s' (Di o cb pb) ∧ s'.nx = s.nx ∧ (∀ k, k ≠ b → s'.get k = s.get k) := by
 obtain ⟨cv, pv, h1, h2, h3⟩ := h.ex
 have hj := BA hc
 have hlt : j * 21 + i < O.comps.length * 21 := by have : (j + 1) * 21 ≤ O.comps.length * 21 := Nat.mul_le_mul_right _ hj; omega
 obtain ⟨b, full, hb, _, hw, hA⟩ := h2.set hlt hx
 refine ⟨b, _, hb, hw, ⟨h.lt, ⟨cv, pv, ?_, ?_, ?_⟩, ?_, h.co, h.po, h.cp⟩, .put (.inr (.inl hb)), rfl, fun k hk => by rw [A8.get_put, if_neg hk]⟩
 · rw [A8.get_put, if_neg (fun e => h.co (by rw [hb, e]))]; exact h1
 · rw [Ph BR 21 O.comps j i c c' x (fun a ha => DW (h.ok a ha)) hc hi he] at hA
   simpa using hA
 · exact h3.frame (Nat.le_refl _) fun b' e => by rw [A8.get_put, if_neg (fun e' => h.cp b hb (by rw [e, e']))]
 · intro a ha
   rcases List.mem_or_eq_of_mem_set ha with ha | rfl
   · exact h.ok a ha
   · exact hc'
theorem AY.setPrt (h : AY s o cb pb O) {j i : Nat} {p p' : Int × Int} {x : Value} (hp : O.parts[j]? = some p) (hi : i < 2) (hx : simple x = true) (he : Ht p' = (Ht p).set i x) :
 ∃ b s', pb = some b ∧ wSt s 1 x (.pointer (some ⟨b, j * 2 + i, none⟩)) = some (BX, s') ∧ AY s' o cb pb ⟨O.comps, O.parts.set j p'⟩ ∧ Fr s s' (Di o cb pb) ∧ s'.nx = s.nx ∧ (∀ k, k ≠ b → s'.get k = s.get k) := by
 obtain ⟨cv, pv, h1, h2, h3⟩ := h.ex
 have hj := BA hp
 have hlt : j * 2 + i < O.parts.length * 2 := by omega
 obtain ⟨b, full, hb, _, hw, hA⟩ := h3.set hlt hx
 refine ⟨b, _, hb, hw, ⟨h.lt, ⟨cv, pv, ?_, ?_, ?_⟩, h.ok, h.co, h.po, h.cp⟩, .put (.inr (.inr hb)), rfl, fun k hk => by rw [A8.get_put, if_neg hk]⟩
 · rw [A8.get_put, if_neg (fun e => h.po (by rw [hb, e]))]; exact h1
 · exact h2.frame (Nat.le_refl _) fun b' e => by rw [A8.get_put, if_neg (fun e' => h.cp b' e (by rw [hb, e']))]
 · rw [Ph Ht 2 O.parts j i p p' x (fun a _ => rfl) hp hi he] at hA
   simpa using hA
theorem AY.slices (h : AY s o cb pb O) : ∃ cv pv, s.rd1 o 0 = some cv ∧ s.rd1 o 1 = some pv ∧ Bc s cb 120 21 (O.comps.flatMap BR) O.comps.length cv ∧ Bc s pb 116 2 (O.parts.flatMap Ht) O.parts.length pv := by
 obtain ⟨cv, pv, h1, h2, h3⟩ := h.ex
 exact ⟨cv, pv, by rw [Ag h1]; rfl, by rw [Ag h1]; rfl, h2, h3⟩
theorem AY.rdComp (h : AY s o cb pb O) {j i : Nat} {c : Bj} {x : Value} (hc : O.comps[j]? = some c) (hi : i < 21) (hx : (BR c)[i]? = some x) : ∃ b, cb = some b ∧ s.rd1 b (j * 21 + i) = some x := by
 obtain ⟨cv, pv, _, _, h2, _⟩ := h.slices
 exact h2.get (by rw [flat_get BR 21 O.comps j i c (fun a ha => DW (h.ok a ha)) hc hi, hx])
theorem AY.rdPrt (h : AY s o cb pb O) {j i : Nat} {p : Int × Int} {x : Value} (hp : O.parts[j]? = some p) (hi : i < 2) (hx : (Ht p)[i]? = some x) : ∃ b, pb = some b ∧ s.rd1 b (j * 2 + i) = some x := by
 obtain ⟨cv, pv, _, _, _, h3⟩ := h.slices
 exact h3.get (by rw [flat_get Ht 2 O.parts j i p (fun a _ => rfl) hp hi, hx])
theorem AY.setPv (h : AY s o cb pb O) {pb' : Option Nat} {P' : List (Int × Int)} {pv' : Value} (hA : Bc s pb' 116 2 (P'.flatMap Ht) P'.length pv') (hpo : pb' ≠ some o) (hcp : ∀ b, cb = some b → pb' ≠ some b) :
 ∃ s', wSt s 1 pv' (.pointer (some ⟨o, 1, none⟩)) = some (BX, s') ∧ AY s' o cb pb' ⟨O.comps, P'⟩ ∧ (∀ k, k ≠ o → s'.get k = s.get k) ∧ s'.nx = s.nx := by
 obtain ⟨cv, pv, h1, h2, h3⟩ := h.ex
 refine ⟨_, Me h1 hA.simple (by simp), ⟨h.lt, ⟨cv, pv', by rw [A8.get_put, if_pos rfl]; rfl, ?_, ?_⟩, h.ok, h.co, hpo, hcp⟩, fun k hk => by rw [A8.get_put, if_neg hk], rfl⟩
 · exact h2.frame (Nat.le_refl _) fun b e => by rw [A8.get_put, if_neg (fun e' => h.co (by rw [e, e']))]
 · exact hA.frame (Nat.le_refl _) fun b e => by rw [A8.get_put, if_neg (fun e' => hpo (by rw [e, e']))]
theorem AY.setCv (h : AY s o cb pb O) {cb' : Option Nat} {C' : List Bj} {cv' : Value} (hA : Bc s cb' 120 21 (C'.flatMap BR) C'.length cv') (hok : ∀ c ∈ C', c.ok) (hco : cb' ≠ some o) (hcp : ∀ b, cb' = some b → pb ≠ some b) :
 ∃ s', wSt s 1 cv' (.pointer (some ⟨o, 0, none⟩)) = some (BX, s') ∧ AY s' o cb' pb ⟨C', O.parts⟩ ∧ (∀ k, k ≠ o → s'.get k = s.get k) ∧ s'.nx = s.nx := by
 obtain ⟨cv, pv, h1, h2, h3⟩ := h.ex
 refine ⟨_, Me h1 hA.simple (by simp), ⟨h.lt, ⟨cv', pv, by rw [A8.get_put, if_pos rfl]; rfl, ?_, ?_⟩, hok, hco, h.po, hcp⟩, fun k hk => by rw [A8.get_put, if_neg hk], rfl⟩
 · exact hA.frame (Nat.le_refl _) fun b e => by rw [A8.get_put, if_neg (fun e' => hco (by rw [e, e']))]
 · exact h3.frame (Nat.le_refl _) fun b e => by rw [A8.get_put, if_neg (fun e' => h.po (by rw [e, e']))]
end
structure Ew (s s' : A8) (o : Nat) (cb pb : Option Nat) (O' : Off) : Prop where
 ex : ∃ cb' pb', AY s' o cb' pb' O' ∧ (∀ b, Di o cb' pb' b → Di o cb pb b ∨ s.nx ≤ b)
 fr : Fr s s' (Di o cb pb)
theorem Ew.trans {a b c : A8} {o : Nat} {cb pb : Option Nat} {O1 O2 : Off} (h : Ew a b o cb pb O1) (k : ∀ cb' pb', AY b o cb' pb' O1 → Ew b c o cb' pb' O2) : Ew a c o cb pb O2 := by
 obtain ⟨cb', pb', h1, h2⟩ := h.ex
 have k1 := k cb' pb' h1
 obtain ⟨cb'', pb'', h3, h4⟩ := k1.ex
 refine ⟨⟨cb'', pb'', h3, fun i hi => ?_⟩, h.fr.trans k1.fr fun i hi hF => ?_⟩
 · rcases h4 i hi with h5 | h5
   · exact h2 i h5
   · exact .inr (Nat.le_trans h.fr.nx h5)
 · rcases h2 i hF with h5 | h5
   · exact h5
   · omega
def Off.add (O : Off) (j k : Nat) (home : Int) : Off := match O.comps[j]? with
 | some c => ⟨O.comps.set j { c with parts := c.parts.set k O.parts.length }, O.parts ++ [((j : Int), home)]⟩
 | none => O
theorem Pj (c : Bj) (h : c.ok) (k : Nat) (hk : k < 4) (v : Nat) : BR { c with parts := c.parts.set k v } = (BR c).set (1 + k) (iV (v : Int)) := by
 obtain ⟨h1, _, _⟩ := h
 unfold BR
 rw [Nat.add_comm 1 k, List.set_cons_succ, List.set_append_left _ _ (by simp [h1, hk]), List.map_set]
theorem k94 (n : Nat) (hn : 1 ≤ n) (s : A8) (o : Nat) (cb pb : Option Nat) (O : Off) (h : AY s o cb pb O) (hlp : O.parts.length < 1000000) (j k : Nat) (home : Int) (c : Bj) (hc : O.comps[j]? = some c) (hk : k < 4) :
 ∃ s', AU AB Ah n (.fn 94) [.pointer (some ⟨o, 0, none⟩), .int .i64 (j : Int), .int .i64 (k : Int), .int .i64 home] s = .ok (.tuple ⟨[]⟩, s') ∧ Ew s s' o cb pb (O.add j k home) := by
 obtain ⟨m, rfl, _⟩ := Ae hn
 obtain ⟨cv, pv, r0, r1, hC, hP⟩ := h.slices
 have hj := BA hc
 obtain ⟨b, hb, hi⟩ := hC.iad j hj .i64
 have hok := h.ok c (List.mem_of_getElem? hc)
 obtain ⟨b1, s1, hb1, w1, h1, f1, n1, g1⟩ := h.XY hc (i := 1 + k) (x := iV (O.parts.length : Int)) (by omega) rfl (c' := { c with parts := c.parts.set k O.parts.length }) ⟨by simp [hok.1], hok.2.1, hok.2.2⟩ (Pj c hok k hk _)
 obtain rfl : b = b1 := Option.some.inj (hb.symm.trans hb1)
 obtain ⟨cv1, pv1, r0', r1', hC1, hP1⟩ := h1.slices
 obtain ⟨s2, hs2⟩ : ∃ s2, s2 = s1.new (.cells (Ht ((j : Int), home)) 116 true) := ⟨_, rfl⟩
 have x2 : Ext s1 s2 := by rw [hs2]; exact (Ext.refl s1).new _
 have h2 := h1.ext x2
 have hP2 := hP1.frame x2.nx (fun b e => x2.get b (hP1.lt e))
 have hsrc : Cc s2 2 (Bv 1 1 s1.nx) = some (Ht ((j : Int), home)) := by
  show s2.rd s1.nx 0 (Nat.mul 1 2) = _
  rw [Eb (by rw [hs2, A8.Af, if_pos rfl]) (by simp [Ht])]; rfl
 obtain ⟨pv3, s3, pb3, w3, hA3, hb3, n3, g3⟩ := hP2.push (by decide) (by_ := 16) (by show (O.parts.length + 1) * 16 ≤ _; omega) (by show O.parts.length + 1 < 9223372036854775808; omega) (news := Ht ((j : Int), home)) rfl rfl hsrc
 have hn2 : s2.nx = s1.nx + 1 := by rw [hs2]; rfl
 have h3 : AY s3 o cb pb3 ⟨O.comps.set j { c with parts := c.parts.set k O.parts.length }, O.parts ++ [((j : Int), home)]⟩ ∨ True := .inr trivial
 have gold : ∀ i, i < s2.nx → pb ≠ some i → s3.get i = s2.get i := g3
 have h3' : AY s3 o cb none ⟨O.comps.set j { c with parts := c.parts.set k O.parts.length }, []⟩ ∨ True := .inr trivial
 clear h3 h3'
 obtain ⟨cv2, pv2, e1, e2, e3⟩ := h2.ex
 have ho3 : s3.get o = some (.cells [cv2, pv2] 95 true) := by rw [gold o h2.lt h.po]; exact e1
 have hC3 : Bc s3 cb 120 21 ((O.comps.set j { c with parts := c.parts.set k O.parts.length }).flatMap BR) (O.comps.set j { c with parts := c.parts.set k O.parts.length }).length cv2 := e2.frame n3 fun b' e => gold b' (e2.lt e) (fun e' => h.cp b' e e')
 have hpo3 : pb3 ≠ some o := by
  rcases hb3 with rfl | rfl
  · exact h.po
  · intro e; have := Option.some.inj e; have := h2.lt; omega
 have hcp3 : ∀ b', cb = some b' → pb3 ≠ some b' := by
  intro b' e e'
  rcases hb3 with rfl | rfl
  · exact h.cp b' e e'
  · have := Option.some.inj e'; have := e2.lt e; omega
 have w4 := Me (s := s3) (b := o) ho3 (o := 1) (v := pv3) hA3.simple (by simp)
 obtain ⟨s4, hs4⟩ : ∃ s4, s4 = s3.put o (.cells ([cv2, pv2].set 1 pv3) 95 true) := ⟨_, rfl⟩
 rw [← hs4] at w4
 have g4 : ∀ i, i ≠ o → s4.get i = s3.get i := fun i hi => by rw [hs4, A8.get_put, if_neg hi]
 have n4 : s4.nx = s3.nx := by rw [hs4]; rfl
 have h4 : AY s4 o cb pb3 ⟨O.comps.set j { c with parts := c.parts.set k O.parts.length }, O.parts ++ [((j : Int), home)]⟩ := by
  refine ⟨by rw [n4]; have := h2.lt; omega, ⟨cv2, pv3, by rw [hs4, A8.get_put, if_pos rfl]; rfl, ?_, ?_⟩, h1.ok, h.co, hpo3, hcp3⟩
  · exact hC3.frame (by rw [n4]; exact Nat.le_refl _) fun b' e => g4 b' (fun e' => h.co (by rw [e, e']))
  · have := hA3.frame (s' := s4) (by rw [n4]; exact Nat.le_refl _) fun b' e => g4 b' (fun e' => hpo3 (by rw [e, e']))
    simpa using this
 refine ⟨s4, ?_, ⟨cb, pb3, ?_, ?_⟩, ⟨by rw [n4]; omega, fun i hi hF => ?_⟩⟩
 · rw [Au 94 c94 rfl, f94_eq]
   have a1 : BN 21 cv (.int .i64 (j : Int)) = some (.pointer (some ⟨b, j * 21, none⟩)) := hi
   have a2 : AZ 1 (.pointer (some ⟨b, j * 21, none⟩)) = some (.pointer (some ⟨b, j * 21 + 1, none⟩)) := rfl
   have a3 : Bo 4 1 (.pointer (some ⟨b, j * 21 + 1, none⟩)) (.int .i64 (k : Int)) = some (.pointer (some ⟨b, j * 21 + (1 + k), none⟩)) := by rw [FU _ _ _ _ _ _ hk, Nat.mul_one, Nat.add_assoc]
   have nb1 : Nat.ble s.nx s1.nx = true := Aa.2 (by omega)
   have e4 : ob (fill [.int .i64 0, .int .i64 0] [(0, 1, .int .i64 (j : Int)), (1, 1, .int .i64 home)]) (fun c => some (Value.agg ⟨c⟩)) = some (.agg ⟨Ht ((j : Int), home)⟩) := rfl
   have e5 : ob (fill (zeros [.int .i64 0, .int .i64 0] 1) [(0, 2, .agg ⟨Ht ((j : Int), home)⟩)]) (fun c => some (CQ.cells c 116 true, Bv 1 1)) = some (.cells (Ht ((j : Int), home)) 116 true, Bv 1 1) := rfl
   have w1' : wSt s 1 (.int .i64 (O.parts.length : Int)) (.pointer (some ⟨b, j * 21 + (1 + k), none⟩)) = some (BX, s1) := w1
   have r1'' : s1.rd1 o 1 = some pv1 := r1'
   have hpv : pv2 = pv2 := rfl
   have w3' : Df s2 116 2 16 pv1 (Bv 1 1 s1.nx) = some (pv3, s3) := w3
   simp [r0, r1, hP.len_eq, a1, a2, a3, w1', nb1, r1'', e4, e5, ← hs2, w3', w4]
 · unfold Off.add; rw [hc]; exact h4
 · intro i hi
   rcases hi with rfl | hi | hi
   · exact .inl (.inl rfl)
   · exact .inl (.inr (.inl hi))
   · rcases hb3 with rfl | rfl
     · exact .inl (.inr (.inr hi))
     · have := Option.some.inj hi; exact .inr (by omega)
 · rw [g4 i (fun e => hF (.inl e)), gold i (by omega) (fun e => hF (.inr (.inr e))), x2.get i (by omega), g1 i (fun e => hF (.inr (.inl (by rw [hb, e]))))]
end Go.Im
set_option maxRecDepth 100000
set_option maxHeartbeats 4000000
namespace Go.Im
theorem Nc (x : List UInt8) : ∀ (l : List Bj) (i : Nat), BJ x l i = -1 ∨ ∃ (j : Nat) (c : Bj), l[j]? = some c ∧ c.name = x ∧ BJ x l i = ((i + j : Nat) : Int)
 | [], _ => .inl rfl
 | c :: l, i => by
  unfold BJ
  by_cases h : c.name = x
  · exact .inr ⟨0, c, rfl, h, by rw [if_pos h]; rfl⟩
  · rw [if_neg h]
    rcases Nc x l (i + 1) with h1 | ⟨j, d, h1, h2, h3⟩
    · exact .inl h1
    · exact .inr ⟨j + 1, d, h1, h2, by rw [h3, Nat.add_assoc, Nat.add_comm 1]⟩
theorem Yk {x : List UInt8} {l : List Bj} (h : 0 ≤ BJ x l 0) : ∃ (j : Nat) (c : Bj), l[j]? = some c ∧ c.name = x ∧ BJ x l 0 = (j : Int) := by
 rcases Nc x l 0 with h1 | ⟨j, c, h1, h2, h3⟩
 · omega
 · exact ⟨j, c, h1, h2, by rw [h3, Nat.zero_add]⟩
section
variable {s : A8} {o : Nat} {cb pb : Option Nat} {O : Off}
theorem AY.Jk (h : AY s o cb pb O) {j : Nat} (hj : j < O.comps.length) : ∃ b, cb = some b := by
 obtain ⟨cv, pv, _, h2, _⟩ := h.ex
 obtain ⟨b, hb, _⟩ := h2.iad j hj .i64
 exact ⟨b, hb⟩
theorem AY.TG (h : AY s o cb pb O) {j : Nat} (hj : j < O.parts.length) : ∃ b, pb = some b := by
 obtain ⟨cv, pv, _, _, h3⟩ := h.ex
 obtain ⟨b, hb, _⟩ := h3.iad j hj .i64
 exact ⟨b, hb⟩
theorem AY.C {b : Nat} (h : AY s o (some b) pb O) : ∃ cv, s.rd1 o 0 = some cv ∧ (∀ j, j < O.comps.length → BN 21 cv (.int .i64 (j : Int)) = some (.pointer (some ⟨b, j * 21, none⟩))) ∧ Ce cv = some (.int .i64 (O.comps.length : Int)) ∧ simple cv = true := by
 obtain ⟨cv, pv, r0, r1, h2, h3⟩ := h.slices
 refine ⟨cv, r0, fun j hj => ?_, h2.len_eq, h2.simple⟩
 obtain ⟨b', hb, e⟩ := h2.iad j hj .i64
 obtain rfl := Option.some.inj hb
 exact e
theorem AY.P {b : Nat} (h : AY s o cb (some b) O) : ∃ pv, s.rd1 o 1 = some pv ∧ (∀ j, j < O.parts.length → BN 2 pv (.int .i64 (j : Int)) = some (.pointer (some ⟨b, j * 2, none⟩))) ∧ Ce pv = some (.int .i64 (O.parts.length : Int)) ∧ simple pv = true := by
 obtain ⟨cv, pv, r0, r1, h2, h3⟩ := h.slices
 refine ⟨pv, r1, fun j hj => ?_, h3.len_eq, h3.simple⟩
 obtain ⟨b', hb, e⟩ := h3.iad j hj .i64
 obtain rfl := Option.some.inj hb
 exact e
theorem AY.rdC {b : Nat} (h : AY s o (some b) pb O) {j i : Nat} {c : Bj} {x : Value} (hc : O.comps[j]? = some c) (hi : i < 21) (hx : (BR c)[i]? = some x) : s.rd1 b (j * 21 + i) = some x := by
 obtain ⟨b', hb, e⟩ := h.rdComp hc hi hx
 obtain rfl := Option.some.inj hb
 exact e
theorem AY.rdP {b : Nat} (h : AY s o cb (some b) O) {j i : Nat} {p : Int × Int} {x : Value} (hp : O.parts[j]? = some p) (hi : i < 2) (hx : (Ht p)[i]? = some x) : s.rd1 b (j * 2 + i) = some x := by
 obtain ⟨b', hb, e⟩ := h.rdPrt hp hi hx
 obtain rfl := Option.some.inj hb
 exact e
theorem AY.wC {b : Nat} (h : AY s o (some b) pb O) {j i : Nat} {c c' : Bj} {x : Value} (hc : O.comps[j]? = some c) (hi : i < 21) (hx : simple x = true) (hc' : c'.ok) (he : BR c' = (BR c).set i x) :
 ∃ s', wSt s 1 x (.pointer (some ⟨b, j * 21 + i, none⟩)) = some (BX, s') ∧ AY s' o (some b) pb ⟨O.comps.set j c', O.parts⟩ ∧ Fr s s' (Di o (some b) pb) ∧ s'.nx = s.nx := by
 obtain ⟨b', s', hb, h1, h2, h3, h4, _⟩ := h.XY hc hi hx hc' he
 obtain rfl := Option.some.inj hb
 exact ⟨s', h1, h2, h3, h4⟩
theorem AY.wP {b : Nat} (h : AY s o cb (some b) O) {j i : Nat} {p p' : Int × Int} {x : Value} (hp : O.parts[j]? = some p) (hi : i < 2) (hx : simple x = true) (he : Ht p' = (Ht p).set i x) :
 ∃ s', wSt s 1 x (.pointer (some ⟨b, j * 2 + i, none⟩)) = some (BX, s') ∧ AY s' o cb (some b) ⟨O.comps, O.parts.set j p'⟩ ∧ Fr s s' (Di o cb (some b)) ∧ s'.nx = s.nx := by
 obtain ⟨b', s', hb, h1, h2, h3, h4, _⟩ := h.setPrt hp hi hx he
 obtain rfl := Option.some.inj hb
 exact ⟨s', h1, h2, h3, h4⟩
end
def Off.check (O : Off) : Ord → Int
 | .new a => if 0 ≤ BJ a O.comps 0 then 7 else if O.comps.length = 8 then 3 else 0
 | .swap a b _ => if BJ a O.comps 0 < 0 ∨ BJ b O.comps 0 < 0 then 6 else if a = b then 7 else 0
 | .card a _ _ => if BJ a O.comps 0 < 0 then 6 else 0
 | .mend a _ => if BJ a O.comps 0 < 0 then 6 else 0
 | .undo => 0
section
variable {s : A8} {o : Nat} {cb pb : Option Nat} {O : Off}
theorem k192 (n : Nat) (h : AY s o cb pb O) (hn : O.comps.length + 6 ≤ n) (hlen : O.comps.length < 1000000000) (a : List UInt8) (e : Nat) (hl : e < s.nx) (he : s.get e = some (.cells [strOf a] 188 true)) :
 Gives (AU AB Ah n (.fn 192) [.pointer (some ⟨e, 0, none⟩), .pointer (some ⟨o, 0, none⟩)] s) s (.int .i64 (O.check (.new a))) := by
 obtain ⟨m, rfl, _⟩ := Ae (show 1 ≤ n by omega)
 obtain ⟨s1, d1, x1⟩ := k93 m s o cb pb O h (by omega) hlen a
 have h1 := h.ext x1
 obtain ⟨cv, pv, r0, _, hC, _⟩ := h1.slices
 refine ⟨s1, ?_, x1⟩
 rw [Au 192 c192 rfl, jZ]
 have re : s.rd1 e 0 = some (strOf a) := by rw [Ag he]; rfl
 have e8 : ((O.comps.length : Int) = 8) ↔ O.comps.length = 8 := by omega
 simp only [Off.check]
 by_cases c : 0 ≤ BJ a O.comps 0
 · simp [re, d1, c]
 · by_cases c8 : O.comps.length = 8 <;> simp [re, d1, c, r0, hC.len_eq, e8, c8]
theorem k186 (n : Nat) (h : AY s o cb pb O) (hn : O.comps.length + 6 ≤ n) (hlen : O.comps.length < 1000000000) (a : List UInt8) (cs : List Value) (e : Nat) (hl : e < s.nx) (he : s.get e = some (.cells (strOf a :: cs) 193 true)) (x y : Int) :
 Gives (AU AB Ah n (.fn 186) [.pointer (some ⟨e, 0, none⟩), .pointer (some ⟨o, 0, none⟩)] s) s (.int .i64 (O.check (.card a x y))) := by
 obtain ⟨m, rfl, _⟩ := Ae (show 1 ≤ n by omega)
 obtain ⟨s1, d1, x1⟩ := k93 m s o cb pb O h (by omega) hlen a
 refine ⟨s1, ?_, x1⟩
 rw [Au 186 c186 rfl, jU]
 have re : s.rd1 e 0 = some (strOf a) := by rw [Ag he]; rfl
 simp only [Off.check]
 by_cases c : BJ a O.comps 0 < 0 <;> simp [re, d1, c]
theorem k188 (n : Nat) (h : AY s o cb pb O) (hn : O.comps.length + 6 ≤ n) (hlen : O.comps.length < 1000000000) (a : List UInt8) (cs : List Value) (e : Nat) (hl : e < s.nx) (he : s.get e = some (.cells (strOf a :: cs) 114 true)) (x : Int) :
 Gives (AU AB Ah n (.fn 188) [.pointer (some ⟨e, 0, none⟩), .pointer (some ⟨o, 0, none⟩)] s) s (.int .i64 (O.check (.mend a x))) := by
 obtain ⟨m, rfl, _⟩ := Ae (show 1 ≤ n by omega)
 obtain ⟨s1, d1, x1⟩ := k93 m s o cb pb O h (by omega) hlen a
 refine ⟨s1, ?_, x1⟩
 rw [Au 188 c188 rfl, jW]
 have re : s.rd1 e 0 = some (strOf a) := by rw [Ag he]; rfl
 simp only [Off.check]
 by_cases c : BJ a O.comps 0 < 0 <;> simp [re, d1, c]
theorem k195 (n : Nat) (h : AY s o cb pb O) (hn : O.comps.length + 6 ≤ n) (hlen : O.comps.length < 1000000000) (a b : List UInt8) (k : Int) (e : Nat) (hl : e < s.nx) (he : s.get e = some (.cells [strOf a, strOf b, .int .i64 k] 191 true)) :
 Gives (AU AB Ah n (.fn 195) [.pointer (some ⟨e, 0, none⟩), .pointer (some ⟨o, 0, none⟩)] s) s (.int .i64 (O.check (.swap a b k))) := by
 obtain ⟨m, rfl, _⟩ := Ae (show 1 ≤ n by omega)
 obtain ⟨s1, d1, x1⟩ := k93 m s o cb pb O h (by omega) hlen a
 obtain ⟨s2, d2, x2⟩ := k93 m s1 o cb pb O (h.ext x1) (by omega) hlen b
 have re : s.rd1 e 0 = some (strOf a) := by rw [Ag he]; rfl
 have he1 : s1.get e = _ := (x1.get e hl).trans he
 have he2 : s2.get e = _ := (x2.get e (Nat.lt_of_lt_of_le hl x1.nx)).trans he1
 have re1 : s1.rd1 e 1 = some (strOf b) := by rw [Ag he1]; rfl
 have r20 : s2.rd1 e 0 = some (strOf a) := by rw [Ag he2]; rfl
 have r21 : s2.rd1 e 1 = some (strOf b) := by rw [Ag he2]; rfl
 have q : Az .eql (strOf a) (strOf b) = some (.bool (decide (a = b))) := by unfold strOf; rw [Fb]; rfl
 simp only [Off.check]
 by_cases c : BJ a O.comps 0 < 0
 · refine ⟨s1, ?_, x1⟩
   rw [Au 195 VH rfl, XU]
   simp [re, d1, c]
 · refine ⟨s2, ?_, x1.trans x2⟩
   rw [Au 195 VH rfl, XU]
   by_cases c' : BJ b O.comps 0 < 0
   · simp [re, d1, c, re1, d2, c']
   · by_cases c2 : a = b
     · subst c2
       simp [re, d1, c, re1, d2, r20, r21, q]
     · simp [re, d1, c, re1, d2, c', r20, r21, q, c2]
end
end Go.Im
set_option maxRecDepth 100000
set_option maxHeartbeats 4000000
namespace Go.Im
theorem GR : ∀ {l : List Value}, (∀ v ∈ l, simple v = true) → Ba l = true
 | [], _ => rfl
 | v :: l, h => by
  show cond (simple v) (Ba l) false = true
  rw [h v (by simp), GR fun w hw => h w (by simp [hw])]; rfl
def newC (a : List UInt8) : Bj := ⟨a, [0, 0, 0, 0], [0, 0, 0, 0, 0, 0, 0, 0], [false, false, false, false, false, false, false, false]⟩
theorem jo (a : List UInt8) : (newC a).ok := ⟨rfl, rfl, rfl⟩
def Off.arrive (O : Off) (a : List UInt8) : Off :=
 let j := O.comps.length
 (((Off.add ⟨O.comps ++ [newC a], O.parts⟩ j 0 j).add j 1 j).add j 2 j).add j 3 j
theorem Off.add_clen (O : Off) (j k : Nat) (h : Int) : (O.add j k h).comps.length = O.comps.length := by
 unfold Off.add; split <;> simp
theorem Off.add_plen (O : Off) (j k : Nat) (h : Int) : (O.add j k h).parts.length ≤ O.parts.length + 1 := by
 unfold Off.add; split <;> simp
theorem BU {α : Type} {l : List α} {j : Nat} (h : j < l.length) : ∃ c, l[j]? = some c := ⟨_, List.getElem?_eq_getElem h⟩
section
variable {s : A8} {o : Nat} {cb pb : Option Nat} {O : Off}
theorem AY.pushC (h : AY s o cb pb O) {c : Bj} (hc : c.ok) (hlen : O.comps.length < 1000000) {x : Value} (hsrc : Cc s 21 x = some (BR c)) :
 ∃ cv cv3 s3 s4, s.rd1 o 0 = some cv ∧ Df s 120 21 120 cv x = some (cv3, s3) ∧ s.nx ≤ s3.nx ∧ wSt s3 1 cv3 (.pointer (some ⟨o, 0, none⟩)) = some (BX, s4) ∧ s4.nx = s3.nx ∧ Ew s s4 o cb pb ⟨O.comps ++ [c], O.parts⟩ := by
 obtain ⟨cv, pv, e1, e2, e3⟩ := h.ex
 have hs : Ba (BR c) = true := by
  have : ∀ v ∈ BR c, simple v = true := by
   intro v hv
   unfold BR at hv
   simp only [List.mem_cons, List.mem_append, List.mem_map] at hv
   rcases hv with rfl | ⟨_, _, rfl⟩ | ⟨_, _, rfl⟩ | ⟨_, _, rfl⟩ <;> rfl
  exact GR this
 obtain ⟨cv3, s3, cb3, w3, hA3, hb3, n3, g3⟩ := e2.push (by decide) (by_ := 120) (by omega) (by show O.comps.length + 1 < 9223372036854775808; omega) (news := BR c) (DW hc) hs hsrc
 have ho3 : s3.get o = some (.cells [cv, pv] 95 true) := by rw [g3 o h.lt h.co]; exact e1
 have hP3 : Bc s3 pb 116 2 (O.parts.flatMap Ht) O.parts.length pv := e3.frame n3 fun b e => g3 b (e3.lt e) (fun e' => h.cp b e' e)
 have hco3 : cb3 ≠ some o := by
  rcases hb3 with rfl | rfl
  · exact h.co
  · intro e; have := Option.some.inj e; have := h.lt; omega
 have hcp3 : ∀ b, cb3 = some b → pb ≠ some b := by
  intro b e e'
  rcases hb3 with rfl | rfl
  · exact h.cp b e e'
  · have := Option.some.inj e; have := e3.lt e'; omega
 have w4 := Me (s := s3) (b := o) ho3 (o := 0) (v := cv3) hA3.simple (by simp)
 obtain ⟨s4, hs4⟩ : ∃ s4, s4 = s3.put o (.cells ([cv, pv].set 0 cv3) 95 true) := ⟨_, rfl⟩
 rw [← hs4] at w4
 have g4 : ∀ i, i ≠ o → s4.get i = s3.get i := fun i hi => by rw [hs4, A8.get_put, if_neg hi]
 have n4 : s4.nx = s3.nx := by rw [hs4]; rfl
 refine ⟨cv, cv3, s3, s4, by rw [Ag e1]; rfl, w3, n3, w4, n4, ⟨cb3, pb, ⟨by rw [n4]; have := h.lt; omega, ⟨cv3, pv, by rw [hs4, A8.get_put, if_pos rfl]; rfl, ?_, ?_⟩, ?_, hco3, h.po, hcp3⟩, ?_⟩, ⟨by rw [n4]; omega, fun i hi hF => ?_⟩⟩
 · have := hA3.frame (s' := s4) (by rw [n4]; exact Nat.le_refl _) fun b' e => g4 b' (fun e' => hco3 (by rw [e, e']))
   simpa using this
 · exact hP3.frame (by rw [n4]; exact Nat.le_refl _) fun b' e => g4 b' (fun e' => h.po (by rw [e, e']))
 · intro a ha
   rcases List.mem_append.1 ha with ha | ha
   · exact h.ok a ha
   · rw [List.mem_singleton.1 ha]; exact hc
 · intro i hi
   rcases hi with rfl | hi | hi
   · exact .inl (.inl rfl)
   · rcases hb3 with rfl | rfl
     · exact .inl (.inr (.inl hi))
     · have := Option.some.inj hi; exact .inr (by omega)
   · exact .inl (.inr (.inr hi))
 · rw [g4 i (fun e => hF (.inl e)), g3 i (by omega) (fun e => hF (.inr (.inl e)))]
theorem Ew.of_ext {s s' : A8} {O' : Off} (h : AY s o cb pb O') (x : Ext s s') : Ew s s' o cb pb O' := ⟨⟨cb, pb, h.ext x, fun b hb => .inl hb⟩, .of_ext x _⟩
theorem k94' (n : Nat) (hn : 1 ≤ n) (h : AY s o cb pb O) (hlp : O.parts.length < 1000000) (j k : Nat) (home : Int) (hj : j < O.comps.length) (hk : k < 4) :
 ∃ s', AU AB Ah n (.fn 94) [.pointer (some ⟨o, 0, none⟩), .int .i64 (j : Int), .int .i64 (k : Int), .int .i64 home] s = .ok (.tuple ⟨[]⟩, s') ∧ Ew s s' o cb pb (O.add j k home) := by
 obtain ⟨c, hc⟩ := BU hj
 exact k94 n hn s o cb pb O h hlp j k home c hc hk
theorem Yl (n : Nat) (hn : 1 ≤ n) (j : Nat) (o : Nat) : ∀ (d k f : Nat) (s : A8) (cb pb : Option Nat) (O : Off), k + d = 4 → d < f → AY s o cb pb O → O.parts.length + d < 1000000 → j < O.comps.length →
 ∃ s', Lc VG (AU AB Ah n) n f (.pointer (some ⟨o, 0, none⟩)) (.int .i64 (j : Int)) (.int .i64 (k : Int)) s = .ok (.tuple ⟨[]⟩, s') ∧ Ew s s' o cb pb ((List.range' k d).foldl (fun O k => O.add j k j) O) := by
 intro d
 induction d with
 | zero =>
  intro k f s cb pb O hk hf h hp hj
  obtain ⟨f, rfl, _⟩ := Ae hf
  obtain rfl : k = 4 := by omega
  refine ⟨s, ?_, .of_ext h (.refl s)⟩
  rw [PX VG rfl]; rfl
 | succ d ih =>
  intro k f s cb pb O hk hf h hp hj
  obtain ⟨f, rfl, _⟩ := Ae hf
  obtain ⟨s1, d1, p1⟩ := k94' n hn h (by omega) j k j hj (by omega)
  obtain ⟨cb1, pb1, h1, u1⟩ := p1.ex
  have := O.add_plen j k j
  obtain ⟨s2, d2, p2⟩ := ih (k + 1) f s1 cb1 pb1 (O.add j k j) (by omega) (by omega) h1 (by omega) (by rw [Off.add_clen]; exact hj)
  refine ⟨s2, ?_, ?_⟩
  · have hw : BL .i64 (Int.add (k : Int) 1) = ((k + 1 : Nat) : Int) := by rw [GN, wrap64 (by omega)]; omega
    have hlt : (k : Int) < 4 := by omega
    rw [PX VG rfl, Bq, decide_eq_true hlt, cond_true, Vw VG rfl, d1, bind_ok, hw]
    exact d2
  · rw [List.range'_succ, List.foldl_cons]
    refine ⟨?_, ?_⟩
    · obtain ⟨cb2, pb2, h2, u2⟩ := p2.ex
      refine ⟨cb2, pb2, h2, fun i hi => ?_⟩
      rcases u2 i hi with h5 | h5
      · exact u1 i h5
      · exact .inr (Nat.le_trans p1.fr.nx h5)
    · refine p1.fr.trans p2.fr fun i hi hF => ?_
      rcases u1 i hF with h5 | h5
      · exact h5
      · omega
theorem k191 (n : Nat) (hn : 10 ≤ n) (h : AY s o cb pb O) (hlen : O.comps.length < 1000000) (hp : O.parts.length + 4 < 1000000) (a : List UInt8) (e : Nat) (he : s.get e = some (.cells [strOf a] 188 true)) :
 ∃ s', AU AB Ah n (.fn 191) [.pointer (some ⟨e, 0, none⟩), .pointer (some ⟨o, 0, none⟩)] s = .ok (.tuple ⟨[]⟩, s') ∧ Ew s s' o cb pb (O.arrive a) := by
 obtain ⟨m, rfl, _⟩ := Ae hn
 obtain ⟨cv, pv, r0, _, hC, _⟩ := h.slices
 obtain ⟨s2, hs2⟩ : ∃ s2, s2 = s.new (.cells (BR (newC a)) 120 true) := ⟨_, rfl⟩
 have x2 : Ext s s2 := by rw [hs2]; exact (Ext.refl s).new _
 have hn2 : s2.nx = s.nx + 1 := by rw [hs2]; rfl
 have hsrc : Cc s2 21 (Bv 1 1 s.nx) = some (BR (newC a)) := by
  show s2.rd s.nx 0 (Nat.mul 1 21) = _
  rw [Eb (by rw [hs2, A8.Af, if_pos rfl]) (by simp [BR, newC])]; rfl
 have h2 := h.ext x2
 obtain ⟨cv', cv3, s3, s4, r2, w3, n3, w4, n4, p4⟩ := h2.pushC (jo a) hlen hsrc
 have r2' : s2.rd1 o 0 = some cv := by
  have e1 := x2.get o h.lt
  unfold A8.rd1 at r0 ⊢
  rw [e1]; exact r0
 obtain rfl : cv = cv' := Option.some.inj (r2'.symm.trans r2)
 obtain ⟨cb4, pb4, h4, u4⟩ := p4.ex
 obtain ⟨s5, d5, p5⟩ := Yl m (by omega) O.comps.length o 4 0 m s4 cb4 pb4 ⟨O.comps ++ [newC a], O.parts⟩ (by omega) (by omega) h4 (by show O.parts.length + 4 < _; omega) (by simp)
 refine ⟨s5, ?_, ?_⟩
 · rw [Au 191 Rq rfl, jY]
   have re : s.rd1 e 0 = some (strOf a) := by rw [Ag he]; rfl
   have e4 : ob (fill [.string ⟨#[]⟩, .int .i64 0, .int .i64 0, .int .i64 0, .int .i64 0, .int .i64 0, .int .i64 0, .int .i64 0, .int .i64 0, .int .i64 0, .int .i64 0, .int .i64 0, .int .i64 0, .bool false, .bool false, .bool false, .bool false, .bool false, .bool false, .bool false, .bool false] [(0, 1, strOf a)]) (fun c => some (Value.agg ⟨c⟩)) = some (.agg ⟨BR (newC a)⟩) := rfl
   have e5 : ob (fill (zeros [.string ⟨#[]⟩, .int .i64 0, .int .i64 0, .int .i64 0, .int .i64 0, .int .i64 0, .int .i64 0, .int .i64 0, .int .i64 0, .int .i64 0, .int .i64 0, .int .i64 0, .int .i64 0, .bool false, .bool false, .bool false, .bool false, .bool false, .bool false, .bool false, .bool false] 1) [(0, 21, .agg ⟨BR (newC a)⟩)]) (fun c => some (CQ.cells c 120 true, Bv 1 1)) = some (.cells (BR (newC a)) 120 true, Bv 1 1) := rfl
   have nb2 : Nat.ble s.nx s2.nx = true := Aa.2 (by omega)
   have nb3 : Nat.ble s2.nx s3.nx = true := Aa.2 n3
   have nb4 : Nat.ble s3.nx s4.nx = true := Aa.2 (by omega)
   have d5' : Lc VG (AU AB Ah m) m m (.pointer (some ⟨o, 0, none⟩)) (.int .i64 (O.comps.length : Int)) (.int .i64 0) s4 = .ok (.tuple ⟨[]⟩, s5) := d5
   simp [r0, re, hC.len_eq, e4, e5, ← hs2, w3, w4, nb2, nb3, nb4, d5']
 · have hA : (List.range' 0 4).foldl (fun (O' : Off) k => O'.add O.comps.length k O.comps.length) ⟨O.comps ++ [newC a], O.parts⟩ = O.arrive a := rfl
   rw [hA] at p5
   refine ⟨?_, ?_⟩
   · obtain ⟨cb5, pb5, h5, u5⟩ := p5.ex
     refine ⟨cb5, pb5, h5, fun i hi => ?_⟩
     rcases u5 i hi with h6 | h6
     · rcases u4 i h6 with h7 | h7
       · exact .inl h7
       · exact .inr (by omega)
     · exact .inr (by have := p4.fr.nx; omega)
   · refine (Fr.of_ext x2 (Di o cb pb)).trans (p4.fr.trans p5.fr fun i hi hF => ?_) fun i _ hF => hF
     rcases u4 i hF with h5 | h5
     · exact h5
     · omega
end
end Go.Im
set_option maxRecDepth 100000
set_option maxHeartbeats 4000000
namespace Go.Im
def setH (P : List (Int × Int)) (i : Nat) (v : Int) : List (Int × Int) := match P[i]? with | some t => P.set i (v, t.2) | none => P
def CB (P : List (Int × Int)) (i : Nat) : Int := match P[i]? with | some t => t.2 | none => 0
def setPart (C : List Bj) (j k v : Nat) : List Bj := match C[j]? with | some c => C.set j { c with parts := c.parts.set k v } | none => C
def partAt (C : List Bj) (j k : Nat) : Nat := match C[j]? with | some c => c.parts.getD k 0 | none => 0
def setCard (C : List Bj) (j h : Nat) (v : Int) : List Bj := match C[j]? with | some c => C.set j { c with card := c.card.set h v } | none => C
def Ik (C : List Bj) (j h : Nat) : Int := match C[j]? with | some c => c.card.getD h 0 | none => 0
def setTold (C : List Bj) (j h : Nat) (v : Bool) : List Bj := match C[j]? with | some c => C.set j { c with told := c.told.set h v } | none => C
def Io (C : List Bj) (j h : Nat) : Bool := match C[j]? with | some c => c.told.getD h false | none => false
theorem CX (P : List (Int × Int)) (i : Nat) (v : Int) : (setH P i v).length = P.length := by unfold setH; split <;> simp
theorem BK (C : List Bj) (j k v : Nat) : (setPart C j k v).length = C.length := by unfold setPart; split <;> simp
theorem Ec (C : List Bj) (j k : Nat) (v : Int) : (setCard C j k v).length = C.length := by unfold setCard; split <;> simp
theorem He (C : List Bj) (j k : Nat) (v : Bool) : (setTold C j k v).length = C.length := by unfold setTold; split <;> simp
theorem Dt (C : List Bj) (j k v : Nat) (hj : j < C.length) (hC : ∀ c ∈ C, c.ok) (hk : k < 4) : partAt (setPart C j k v) j k = v := by
 obtain ⟨c, hc⟩ := BU hj
 have := (hC c (List.mem_of_getElem? hc)).1
 have e : setPart C j k v = C.set j { c with parts := c.parts.set k v } := by unfold setPart; rw [hc]
 unfold partAt
 rw [e, List.getElem?_set_self hj]
 simp [this, hk]
theorem FD (C : List Bj) (j k v i l : Nat) (h : i ≠ j) : partAt (setPart C j k v) i l = partAt C i l := by
 have e : (setPart C j k v)[i]? = C[i]? := by
  unfold setPart
  cases C[j]? with
  | none => rfl
  | some c => exact List.getElem?_set_ne (Ne.symm h)
 unfold partAt
 rw [e]
theorem WB (c : Bj) (h : c.ok) (k : Nat) (hk : k < 8) (v : Int) : BR { c with card := c.card.set k v } = (BR c).set (5 + k) (iV v) := by
 obtain ⟨h1, h2, _⟩ := h
 unfold BR
 rw [show 5 + k = (4 + k) + 1 by omega, List.set_cons_succ, List.set_append_right _ _ (by simp [h1]), List.length_map, h1, show 4 + k - 4 = k by omega, List.set_append_left _ _ (by simp [h2, hk]), List.map_set]
theorem WC (c : Bj) (h : c.ok) (k : Nat) (hk : k < 8) (v : Bool) : BR { c with told := c.told.set k v } = (BR c).set (13 + k) (.bool v) := by
 obtain ⟨h1, h2, h3⟩ := h
 unfold BR
 rw [show 13 + k = (12 + k) + 1 by omega, List.set_cons_succ, List.set_append_right _ _ (by simp [h1]; omega), List.length_map, h1, show 12 + k - 4 = 8 + k by omega, List.set_append_right _ _ (by simp [h2]), List.length_map, h2, show 8 + k - 8 = k by omega, List.map_set]
section
variable {s : A8} {o b : Nat} {cb pb : Option Nat} {O : Off}
theorem AY.cOk (h : AY s o cb pb O) {j : Nat} {c : Bj} (hc : O.comps[j]? = some c) : c.ok := h.ok c (List.mem_of_getElem? hc)
theorem AY.fK (h : AY s o (some b) pb O) {j k : Nat} (hj : j < O.comps.length) (hk : k < 4) (v : Nat) :
 ∃ s', wSt s 1 (.int .i64 (v : Int)) (.pointer (some ⟨b, j * 21 + (1 + k), none⟩)) = some (BX, s') ∧ AY s' o (some b) pb ⟨setPart O.comps j k v, O.parts⟩ ∧ Fr s s' (Di o (some b) pb) ∧ s'.nx = s.nx := by
 obtain ⟨c, hc⟩ := BU hj
 have hok := h.cOk hc
 have := h.wC hc (i := 1 + k) (x := iV (v : Int)) (by omega) rfl (c' := { c with parts := c.parts.set k v }) ⟨by simp [hok.1], hok.2.1, hok.2.2⟩ (Pj c hok k hk v)
 unfold setPart; rw [hc]; exact this
theorem AY.Pn (h : AY s o (some b) pb O) {j k : Nat} (hj : j < O.comps.length) (hk : k < 4) : s.rd1 b (j * 21 + (1 + k)) = some (.int .i64 (partAt O.comps j k : Int)) := by
 obtain ⟨c, hc⟩ := BU hj
 have hok := h.cOk hc
 refine h.rdC hc (by omega) ?_
 unfold partAt BR
 rw [hc, Nat.add_comm 1 k, List.getElem?_cons_succ, List.getElem?_append_left (by simp [hok.1, hk])]
 simp [iV, hok.1, hk]
theorem AY.G9 (h : AY s o (some b) pb O) {j k : Nat} (hj : j < O.comps.length) (hk : k < 8) (v : Int) :
 ∃ s', wSt s 1 (.int .i64 v) (.pointer (some ⟨b, j * 21 + (5 + k), none⟩)) = some (BX, s') ∧ AY s' o (some b) pb ⟨setCard O.comps j k v, O.parts⟩ ∧ Fr s s' (Di o (some b) pb) ∧ s'.nx = s.nx := by
 obtain ⟨c, hc⟩ := BU hj
 have hok := h.cOk hc
 have := h.wC hc (i := 5 + k) (x := iV v) (by omega) rfl (c' := { c with card := c.card.set k v }) ⟨hok.1, by simp [hok.2.1], hok.2.2⟩ (WB c hok k hk v)
 unfold setCard; rw [hc]; exact this
theorem AY.rdCard (h : AY s o (some b) pb O) {j k : Nat} (hj : j < O.comps.length) (hk : k < 8) : s.rd1 b (j * 21 + (5 + k)) = some (.int .i64 (Ik O.comps j k)) := by
 obtain ⟨c, hc⟩ := BU hj
 have hok := h.cOk hc
 refine h.rdC hc (by omega) ?_
 unfold Ik BR
 rw [hc, show 5 + k = (4 + k) + 1 by omega, List.getElem?_cons_succ, List.getElem?_append_right (by simp [hok.1]), List.length_map, hok.1, show 4 + k - 4 = k by omega, List.getElem?_append_left (by simp [hok.2.1, hk])]
 simp [iV, hok.2.1, hk]
theorem AY.wTold (h : AY s o (some b) pb O) {j k : Nat} (hj : j < O.comps.length) (hk : k < 8) (v : Bool) :
 ∃ s', wSt s 1 (.bool v) (.pointer (some ⟨b, j * 21 + (13 + k), none⟩)) = some (BX, s') ∧ AY s' o (some b) pb ⟨setTold O.comps j k v, O.parts⟩ ∧ Fr s s' (Di o (some b) pb) ∧ s'.nx = s.nx := by
 obtain ⟨c, hc⟩ := BU hj
 have hok := h.cOk hc
 have := h.wC hc (i := 13 + k) (x := .bool v) (by omega) rfl (c' := { c with told := c.told.set k v }) ⟨hok.1, hok.2.1, by simp [hok.2.2]⟩ (WC c hok k hk v)
 unfold setTold; rw [hc]; exact this
theorem AY.rdTold (h : AY s o (some b) pb O) {j k : Nat} (hj : j < O.comps.length) (hk : k < 8) : s.rd1 b (j * 21 + (13 + k)) = some (.bool (Io O.comps j k)) := by
 obtain ⟨c, hc⟩ := BU hj
 have hok := h.cOk hc
 refine h.rdC hc (by omega) ?_
 unfold Io BR
 rw [hc, show 13 + k = (12 + k) + 1 by omega, List.getElem?_cons_succ, List.getElem?_append_right (by simp [hok.1]; omega), List.length_map, hok.1, show 12 + k - 4 = 8 + k by omega, List.getElem?_append_right (by simp [hok.2.1]), List.length_map, hok.2.1, show 8 + k - 8 = k by omega]
 simp [hok.2.2, hk]
theorem AY.XZ (h : AY s o cb (some b) O) {j : Nat} (hj : j < O.parts.length) (v : Int) :
 ∃ s', wSt s 1 (.int .i64 v) (.pointer (some ⟨b, j * 2, none⟩)) = some (BX, s') ∧ AY s' o cb (some b) ⟨O.comps, setH O.parts j v⟩ ∧ Fr s s' (Di o cb (some b)) ∧ s'.nx = s.nx := by
 obtain ⟨p, hp⟩ := BU hj
 have := h.wP hp (i := 0) (x := iV v) (by omega) rfl (p' := (v, p.2)) rfl
 unfold setH; rw [hp]; exact this
theorem AY.rdHome (h : AY s o cb (some b) O) {j : Nat} (hj : j < O.parts.length) : s.rd1 b (j * 2 + 1) = some (.int .i64 (CB O.parts j)) := by
 obtain ⟨p, hp⟩ := BU hj
 have := h.rdP hp (i := 1) (x := iV p.2) (by omega) rfl
 unfold CB; rw [hp]; exact this
theorem AY.truncC (h : AY s o cb pb O) {k : Nat} (hk : k ≤ O.comps.length) : ∃ cv v' s', s.rd1 o 0 = some cv ∧ rSl s 120 21 none (some (.int .i64 (k : Int))) none cv = some v' ∧ wSt s 1 v' (.pointer (some ⟨o, 0, none⟩)) = some (BX, s') ∧ AY s' o cb pb ⟨O.comps.take k, O.parts⟩ ∧ Fr s s' (Di o cb pb) ∧ s'.nx = s.nx ∧ Ce cv = some (.int .i64 (O.comps.length : Int)) := by
 obtain ⟨cv, pv, r0, r1, hC, hP⟩ := h.slices
 obtain ⟨v', e, hA⟩ := hC.trunc (by decide) hk .i64
 rw [Md BR 21 O.comps k (fun a ha => DW (h.ok a ha))] at hA
 have hl : (O.comps.take k).length = k := by simp; omega
 have hA : Bc s cb 120 21 ((O.comps.take k).flatMap BR) (O.comps.take k).length v' := by rw [hl]; exact hA
 obtain ⟨s', w, h', g, n⟩ := h.setCv hA (fun c hc => h.ok c (List.mem_of_mem_take hc)) h.co h.cp
 exact ⟨cv, v', s', r0, e, w, h', ⟨by omega, fun i _ hi => g i fun e => hi (.inl e)⟩, n, hC.len_eq⟩
theorem AY.fM (h : AY s o cb pb O) {k : Nat} (hk : k ≤ O.parts.length) : ∃ pv v' s', s.rd1 o 1 = some pv ∧ rSl s 116 2 none (some (.int .i64 (k : Int))) none pv = some v' ∧ wSt s 1 v' (.pointer (some ⟨o, 1, none⟩)) = some (BX, s') ∧ AY s' o cb pb ⟨O.comps, O.parts.take k⟩ ∧ Fr s s' (Di o cb pb) ∧ s'.nx = s.nx ∧ Ce pv = some (.int .i64 (O.parts.length : Int)) := by
 obtain ⟨cv, pv, r0, r1, hC, hP⟩ := h.slices
 obtain ⟨v', e, hA⟩ := hP.trunc (by decide) hk .i64
 rw [Md Ht 2 O.parts k (fun a _ => rfl)] at hA
 have hl : (O.parts.take k).length = k := by simp; omega
 have hA : Bc s pb 116 2 ((O.parts.take k).flatMap Ht) (O.parts.take k).length v' := by rw [hl]; exact hA
 obtain ⟨s', w, h', g, n⟩ := h.setPv hA h.po h.cp
 exact ⟨pv, v', s', r1, e, w, h', ⟨by omega, fun i _ hi => g i fun e => hi (.inl e)⟩, n, hP.len_eq⟩
theorem Fr.tr {a b c : A8} {F : Nat → Prop} (h : Fr a b F) (k : Fr b c F) : Fr a c F := h.trans k fun _ _ h => h
def Off.depart (O : Off) : Off := ⟨O.comps.take (O.comps.length - 1), O.parts.take (O.parts.length - 4)⟩
theorem k193 (n : Nat) (hn : 1 ≤ n) (h : AY s o cb pb O) (h1 : 1 ≤ O.comps.length) (h4 : 4 ≤ O.parts.length) (hl : O.comps.length < 1000000) (hp : O.parts.length < 1000000) (e : Value) :
 ∃ s', AU AB Ah n (.fn 193) [e, .pointer (some ⟨o, 0, none⟩)] s = .ok (.tuple ⟨[]⟩, s') ∧ AY s' o cb pb O.depart ∧ Fr s s' (Di o cb pb) := by
 obtain ⟨m, rfl, _⟩ := Ae hn
 obtain ⟨cv, cv', s1, r0, e0, w0, a1, f1, n1, l0⟩ := h.truncC (k := O.comps.length - 1) (by omega)
 obtain ⟨pv, pv', s2, r1, e1, w1, a2, f2, n2, l1⟩ := a1.fM (k := O.parts.length - 4) (by show _ ≤ O.parts.length; omega)
 refine ⟨s2, ?_, a2, f1.tr f2⟩
 rw [Au 193 c193 rfl, jc]
 have i0 : BL .i64 ((O.comps.length : Int) - 1) = ((O.comps.length - 1 : Nat) : Int) := by rw [wrap64 (by omega)]; omega
 have i1 : BL .i64 ((O.parts.length : Int) - 4) = ((O.parts.length - 4 : Nat) : Int) := by rw [wrap64 (by omega)]; omega
 have nb1 : Nat.ble s.nx s1.nx = true := Aa.2 (by omega)
 have nb2 : Nat.ble s1.nx s2.nx = true := Aa.2 (by omega)
 simp [r0, l0, i0, e0, w0, r1, l1, i1, e1, w1, nb1, nb2]
def Off.swap (O : Off) (c d k : Nat) : Off :=
 let p := partAt O.comps c k
 let q := partAt O.comps d k
 ⟨setPart (setPart O.comps c k q) d k p, setH (setH O.parts q c) p d⟩
theorem k194 (n : Nat) (h : AY s o cb pb O) (hn : O.comps.length + 6 ≤ n) (hlen : O.comps.length < 1000000000) (x y : List UInt8) (k : Nat) (hk : k < 4) (e : Nat) (hl : e < s.nx) (he : s.get e = some (.cells [strOf x, strOf y, .int .i64 (k : Int)] 191 true)) (hF : ¬ Di o cb pb e)
 (c d : Nat) (hc : BJ x O.comps 0 = (c : Int)) (hd : BJ y O.comps 0 = (d : Int)) (hcl : c < O.comps.length) (hdl : d < O.comps.length) (hcd : c ≠ d) (hp : partAt O.comps c k < O.parts.length) (hq : partAt O.comps d k < O.parts.length) :
 ∃ s', AU AB Ah n (.fn 194) [.pointer (some ⟨e, 0, none⟩), .pointer (some ⟨o, 0, none⟩)] s = .ok (.tuple ⟨[]⟩, s') ∧ AY s' o cb pb (O.swap c d k) ∧ Fr s s' (Di o cb pb) := by
 obtain ⟨m, rfl, _⟩ := Ae (show 1 ≤ n by omega)
 obtain ⟨b, rfl⟩ := h.Jk hcl
 obtain ⟨b', rfl⟩ := h.TG hp
 obtain ⟨s1, d1, x1⟩ := k93 m s o _ _ O h (by omega) hlen x
 obtain ⟨s2, d2, x2⟩ := k93 m s1 o _ _ O (h.ext x1) (by omega) hlen y
 rw [hc] at d1
 rw [hd] at d2
 have h2 := (h.ext x1).ext x2
 obtain ⟨p, hpp⟩ : ∃ p, p = partAt O.comps c k := ⟨_, rfl⟩
 obtain ⟨q, hqq⟩ : ∃ q, q = partAt O.comps d k := ⟨_, rfl⟩
 obtain ⟨cv, rc, ic, _, _⟩ := h2.C
 have hrc := h2.Pn hcl hk
 have hrd := h2.Pn hdl hk
 obtain ⟨s3, w3, h3, f3, n3⟩ := h2.fK hcl hk q
 obtain ⟨s4, w4, h4, f4, n4⟩ := h3.fK (j := d) (by show d < (setPart _ _ _ _).length; rw [BK]; exact hdl) hk p
 obtain ⟨pv, rp, ip, _, _⟩ := h4.P
 have hrc4 := h4.Pn (j := c) (k := k) (by show c < (setPart _ _ _ _).length; rw [BK, BK]; exact hcl) hk
 have hrd4 := h4.Pn (j := d) (k := k) (by show d < (setPart _ _ _ _).length; rw [BK, BK]; exact hdl) hk
 simp only at hrc4 hrd4
 rw [FD _ _ _ _ _ _ hcd, Dt _ _ _ _ hcl h.ok hk] at hrc4
 rw [Dt _ _ _ _ (by rw [BK]; exact hdl) h3.ok hk] at hrd4
 obtain ⟨s5, w5, h5, f5, n5⟩ := h4.XZ (j := q) (by rw [hqq]; exact hq) c
 obtain ⟨s6, w6, h6, f6, n6⟩ := h5.XZ (j := p) (by show p < (setH _ _ _).length; rw [CX, hpp]; exact hp) d
 refine ⟨s6, ?_, ?_, ?_⟩
 · rw [Au 194 c194 rfl, jd]
   have he1 : s1.get e = _ := (x1.get e hl).trans he
   have hl1 := Nat.lt_of_lt_of_le hl x1.nx
   have he2 : s2.get e = _ := (x2.get e hl1).trans he1
   have re : s.rd1 e 0 = some (strOf x) := by rw [Ag he]; rfl
   have re1 : s1.rd1 e 1 = some (strOf y) := by rw [Ag he1]; rfl
   have re0 : s.rd1 e 1 = some (strOf y) := by rw [Ag he]; rfl
   have rk : s2.rd1 e 2 = some (.int .i64 (k : Int)) := by rw [Ag he2]; rfl
   have a1 : ∀ j, AZ 1 (.pointer (some ⟨b, j * 21, none⟩)) = some (.pointer (some ⟨b, j * 21 + 1, none⟩)) := fun j => rfl
   have a3 : ∀ j, Bo 4 1 (.pointer (some ⟨b, j * 21 + 1, none⟩)) (.int .i64 (k : Int)) = some (.pointer (some ⟨b, j * 21 + (1 + k), none⟩)) := fun j => by rw [FU _ _ _ _ _ _ hk, Nat.mul_one, Nat.add_assoc]
   have nb1 : Nat.ble s.nx s1.nx = true := Aa.2 x1.nx
   have nb2 : Nat.ble s1.nx s2.nx = true := Aa.2 x2.nx
   have nb3 : Nat.ble s2.nx s3.nx = true := Aa.2 (by omega)
   have nb4 : Nat.ble s3.nx s4.nx = true := Aa.2 (by omega)
   have nb5 : Nat.ble s4.nx s5.nx = true := Aa.2 (by omega)
   have nb6 : Nat.ble s5.nx s6.nx = true := Aa.2 (by omega)
   rw [← hpp] at hrc
   rw [← hqq] at hrd
   have ipq := ip q (by rw [hqq]; exact hq)
   have ipp := ip p (by rw [hpp]; exact hp)
   simp [re, re1, re0, d1, d2, CU hl, CU hl1, rc, rk, ic c hcl, ic d hdl, a1, a3, hrc, hrd, w3, w4, rp, hrc4, hrd4, ipq, ipp, w5, w6, nb1, nb2, nb3, nb4, nb5, nb6]
 · unfold Off.swap
   simp only [← hpp, ← hqq]
   exact h6
 · exact (Fr.of_ext (x1.trans x2) _).tr (f3.tr (f4.tr (f5.tr f6)))
end
end Go.Im
set_option maxRecDepth 100000
set_option maxHeartbeats 4000000
namespace Go.Im
theorem wEnt {s : A8} {e el : Nat} {cs : List Value} (he : s.get e = some (.cells cs el true)) {i : Nat} {v : Value} (hv : simple v = true) (hi : i < cs.length) :
 ∃ s', wSt s 1 v (.pointer (some ⟨e, i, none⟩)) = some (BX, s') ∧ s'.get e = some (.cells (cs.set i v) el true) ∧ Fr s s' (· = e) ∧ s'.nx = s.nx :=
 ⟨_, Me he hv hi, by rw [A8.get_put, if_pos rfl], .put rfl, rfl⟩
theorem beqs (n : Nat) : Nat.beq n n = true := Nat.beq_refl n
theorem Ym (b n c : Nat) : veq (.slice (some ⟨b, 0, none⟩) n c) (.slice (some ⟨b, 0, none⟩) n c) = true := by
 show (Nat.beq b b && Nat.beq 0 0 && Nat.beq n n && Nat.beq c c) = true
 simp [beqs]
theorem Bc.veq {s : A8} {base : Option Nat} {el w len : Nat} {cs : List Value} {v : Value} (h : Bc s base el w cs len v) : Go.Im.veq v v = true := by
 cases base with
 | none => obtain ⟨rfl, _⟩ := h; rfl
 | some b => obtain ⟨rfl, _⟩ := h; exact Ym _ _ _
theorem AY.veqC {s : A8} {o : Nat} {cb pb : Option Nat} {O : Off} (h : AY s o cb pb O) {cv : Value} (rc : s.rd1 o 0 = some cv) : veq cv cv = true := by
 obtain ⟨cv', pv, r0, r1, hC, hP⟩ := h.slices
 obtain rfl : cv = cv' := Option.some.inj (rc.symm.trans r0)
 exact hC.veq
def OffE (o : Nat) (cb pb : Option Nat) (e : Nat) (b : Nat) : Prop := Di o cb pb b ∨ b = e
section
variable {s : A8} {o : Nat} {cb pb : Option Nat} {O : Off}
def Off.tell (O : Off) (c h : Nat) (v : Int) (t : Bool) : Off := ⟨setTold (setCard O.comps c h v) c h t, O.parts⟩
theorem AY.frE {s' : A8} {e : Nat} (h : AY s o cb pb O) (k : Fr s s' (· = e)) (hF : ¬ Di o cb pb e) : AY s' o cb pb O := h.fr k fun b hb hbe => hF (by rw [← hbe]; exact hb)
theorem k185 (n : Nat) (h : AY s o cb pb O) (hn : O.comps.length + 6 ≤ n) (hlen : O.comps.length < 1000000000) (x : List UInt8) (hd : Nat) (hk : hd < 8) (v : Int) (u1 u2 : Value) (e : Nat) (hl : e < s.nx)
 (he : s.get e = some (.cells [strOf x, .int .i64 (hd : Int), .int .i64 v, u1, u2] 193 true)) (hF : ¬ Di o cb pb e) (c : Nat) (hc : BJ x O.comps 0 = (c : Int)) (hcl : c < O.comps.length) :
 ∃ s', AU AB Ah n (.fn 185) [.pointer (some ⟨e, 0, none⟩), .pointer (some ⟨o, 0, none⟩)] s = .ok (.tuple ⟨[]⟩, s') ∧ AY s' o cb pb (O.tell c hd v true) ∧ Fr s s' (OffE o cb pb e) ∧
  s'.get e = some (.cells [strOf x, .int .i64 (hd : Int), .int .i64 v, .int .i64 (Ik O.comps c hd), .bool (Io O.comps c hd)] 193 true) := by
 obtain ⟨m, rfl, _⟩ := Ae (show 1 ≤ n by omega)
 obtain ⟨b, rfl⟩ := h.Jk hcl
 obtain ⟨s1, d1, x1⟩ := k93 m s o _ _ O h (by omega) hlen x
 rw [hc] at d1
 have h1 := h.ext x1
 have hl1 := Nat.lt_of_lt_of_le hl x1.nx
 have he1 : s1.get e = _ := (x1.get e hl).trans he
 obtain ⟨cv, rc, ic, _, sc⟩ := h.C
 obtain ⟨s2, w2, he2, f2, n2⟩ := wEnt he1 (i := 3) (v := .int .i64 (Ik O.comps c hd)) rfl (by simp)
 have h2 := h1.frE f2 hF
 obtain ⟨s3, w3, he3, f3, n3⟩ := wEnt he2 (i := 4) (v := .bool (Io O.comps c hd)) rfl (by simp)
 have h3 := h2.frE f3 hF
 obtain ⟨s4, w4, h4, f4, n4⟩ := h3.G9 hcl hk v
 obtain ⟨s5, w5, h5, f5, n5⟩ := h4.wTold (j := c) (by show c < (setCard _ _ _ _).length; rw [Ec]; exact hcl) hk true
 refine ⟨s5, ?_, h5, ?_, ?_⟩
 · rw [Au 185 c185 rfl, jT]
   have re : s.rd1 e 0 = some (strOf x) := by rw [Ag he]; rfl
   have re1 : s1.rd1 e 1 = some (.int .i64 (hd : Int)) := by rw [Ag he1]; rfl
   have re3 : s3.rd1 e 1 = some (.int .i64 (hd : Int)) := by rw [Ag he3]; rfl
   have rv3 : s3.rd1 e 2 = some (.int .i64 v) := by rw [Ag he3]; rfl
   have r15 := h1.rdCard hcl hk
   have r22 := h1.rdTold hcl hk
   have a5 : ∀ j, AZ 5 (.pointer (some ⟨b, j * 21, none⟩)) = some (.pointer (some ⟨b, j * 21 + 5, none⟩)) := fun j => rfl
   have a13 : ∀ j, AZ 13 (.pointer (some ⟨b, j * 21, none⟩)) = some (.pointer (some ⟨b, j * 21 + 13, none⟩)) := fun j => rfl
   have i5 : ∀ j, Bo 8 1 (.pointer (some ⟨b, j * 21 + 5, none⟩)) (.int .i64 (hd : Int)) = some (.pointer (some ⟨b, j * 21 + (5 + hd), none⟩)) := fun j => by rw [FU _ _ _ _ _ _ hk, Nat.mul_one, Nat.add_assoc]
   have i13 : ∀ j, Bo 8 1 (.pointer (some ⟨b, j * 21 + 13, none⟩)) (.int .i64 (hd : Int)) = some (.pointer (some ⟨b, j * 21 + (13 + hd), none⟩)) := fun j => by rw [FU _ _ _ _ _ _ hk, Nat.mul_one, Nat.add_assoc]
   have nb1 : Nat.ble s.nx s1.nx = true := Aa.2 x1.nx
   have nb2 : Nat.ble s1.nx s2.nx = true := Aa.2 (by omega)
   have nb3 : Nat.ble s2.nx s3.nx = true := Aa.2 (by omega)
   have nb4 : Nat.ble s3.nx s4.nx = true := Aa.2 (by omega)
   have nb5 : Nat.ble s4.nx s5.nx = true := Aa.2 (by omega)
   have ck : Bz s (some (.pointer (some ⟨o, 0, none⟩))) (some cv) cv = true := CU h.lt (h.veqC rc)
   have ck1 : Bz s1 (some (.pointer (some ⟨o, 0, none⟩))) (some cv) cv = true := CU h1.lt (h.veqC rc)
   have rc1 : s1.rd1 o 0 = some cv := by
    have e1 := x1.get o h.lt
    unfold A8.rd1 at rc ⊢
    rw [e1]; exact rc
   simp [re, d1, rc, rc1, ck, ck1, ic c hcl, re1, a5, a13, i5, i13, r15, r22, w2, w3, re3, rv3, w4, w5, nb1, nb2, nb3, nb4, nb5]
 · refine (Fr.of_ext x1 _).tr ((f2.mono fun i hi => .inr hi).tr ((f3.mono fun i hi => .inr hi).tr ((f4.mono fun i hi => .inl hi).tr (f5.mono fun i hi => .inl hi))))
 · rw [f5.get e (by omega) hF, f4.get e (by omega) hF, he3]; rfl
theorem k187 (n : Nat) (h : AY s o cb pb O) (hn : O.comps.length + 6 ≤ n) (hlen : O.comps.length < 1000000000) (x : List UInt8) (hd : Nat) (hk : hd < 8) (v old : Int) (t : Bool) (e : Nat) (hl : e < s.nx)
 (he : s.get e = some (.cells [strOf x, .int .i64 (hd : Int), .int .i64 v, .int .i64 old, .bool t] 193 true)) (hF : ¬ Di o cb pb e) (c : Nat) (hc : BJ x O.comps 0 = (c : Int)) (hcl : c < O.comps.length) :
 ∃ s', AU AB Ah n (.fn 187) [.pointer (some ⟨e, 0, none⟩), .pointer (some ⟨o, 0, none⟩)] s = .ok (.tuple ⟨[]⟩, s') ∧ AY s' o cb pb (O.tell c hd old t) ∧ Fr s s' (Di o cb pb) := by
 obtain ⟨m, rfl, _⟩ := Ae (show 1 ≤ n by omega)
 obtain ⟨b, rfl⟩ := h.Jk hcl
 obtain ⟨s1, d1, x1⟩ := k93 m s o _ _ O h (by omega) hlen x
 rw [hc] at d1
 have h1 := h.ext x1
 have hl1 := Nat.lt_of_lt_of_le hl x1.nx
 have he1 : s1.get e = _ := (x1.get e hl).trans he
 obtain ⟨cv, rc, ic, _, sc⟩ := h.C
 obtain ⟨s4, w4, h4, f4, n4⟩ := h1.G9 hcl hk old
 obtain ⟨s5, w5, h5, f5, n5⟩ := h4.wTold (j := c) (by show c < (setCard _ _ _ _).length; rw [Ec]; exact hcl) hk t
 refine ⟨s5, ?_, h5, (Fr.of_ext x1 _).tr (f4.tr f5)⟩
 rw [Au 187 c187 rfl, jV]
 have re : s.rd1 e 0 = some (strOf x) := by rw [Ag he]; rfl
 have re1 : s1.rd1 e 1 = some (.int .i64 (hd : Int)) := by rw [Ag he1]; rfl
 have ro1 : s1.rd1 e 3 = some (.int .i64 old) := by rw [Ag he1]; rfl
 have rt1 : s1.rd1 e 4 = some (.bool t) := by rw [Ag he1]; rfl
 have a5 : ∀ j, AZ 5 (.pointer (some ⟨b, j * 21, none⟩)) = some (.pointer (some ⟨b, j * 21 + 5, none⟩)) := fun j => rfl
 have a13 : ∀ j, AZ 13 (.pointer (some ⟨b, j * 21, none⟩)) = some (.pointer (some ⟨b, j * 21 + 13, none⟩)) := fun j => rfl
 have i5 : ∀ j, Bo 8 1 (.pointer (some ⟨b, j * 21 + 5, none⟩)) (.int .i64 (hd : Int)) = some (.pointer (some ⟨b, j * 21 + (5 + hd), none⟩)) := fun j => by rw [FU _ _ _ _ _ _ hk, Nat.mul_one, Nat.add_assoc]
 have i13 : ∀ j, Bo 8 1 (.pointer (some ⟨b, j * 21 + 13, none⟩)) (.int .i64 (hd : Int)) = some (.pointer (some ⟨b, j * 21 + (13 + hd), none⟩)) := fun j => by rw [FU _ _ _ _ _ _ hk, Nat.mul_one, Nat.add_assoc]
 have nb1 : Nat.ble s.nx s1.nx = true := Aa.2 x1.nx
 have nb4 : Nat.ble s1.nx s4.nx = true := Aa.2 (by omega)
 have nb5 : Nat.ble s4.nx s5.nx = true := Aa.2 (by omega)
 have ck : Bz s (some (.pointer (some ⟨o, 0, none⟩))) (some cv) cv = true := CU h.lt (h.veqC rc)
 have ck1 : Bz s1 (some (.pointer (some ⟨o, 0, none⟩))) (some cv) cv = true := CU h1.lt (h.veqC rc)
 have rc1 : s1.rd1 o 0 = some cv := by
  have e1 := x1.get o h.lt
  unfold A8.rd1 at rc ⊢
  rw [e1]; exact rc
 simp [re, d1, rc, rc1, ck, ck1, ic c hcl, re1, ro1, rt1, a5, a13, i5, i13, w4, w5, nb1, nb4, nb5]
def Off.mend (O : Off) (c k : Nat) : Off :=
 let p := partAt O.comps c k
 Off.add ⟨O.comps, setH O.parts p (-1)⟩ c k (CB (setH O.parts p (-1)) p)
theorem k57 (n : Nat) (h : AY s o cb pb O) (hn : O.comps.length + 6 ≤ n) (hlen : O.comps.length < 1000000000) (hlp : O.parts.length < 1000000) (x : List UInt8) (k : Nat) (hk : k < 4) (u : Value) (e : Nat) (hl : e < s.nx)
 (he : s.get e = some (.cells [strOf x, .int .i64 (k : Int), u] 114 true)) (hF : ¬ Di o cb pb e) (c : Nat) (hc : BJ x O.comps 0 = (c : Int)) (hcl : c < O.comps.length) (hp : partAt O.comps c k < O.parts.length) :
 ∃ s', AU AB Ah n (.fn 57) [.pointer (some ⟨e, 0, none⟩), .pointer (some ⟨o, 0, none⟩)] s = .ok (.tuple ⟨[]⟩, s') ∧ (∃ cb' pb', AY s' o cb' pb' (O.mend c k) ∧ ∀ b, Di o cb' pb' b → Di o cb pb b ∨ s.nx ≤ b) ∧ Fr s s' (OffE o cb pb e) ∧
  s'.get e = some (.cells [strOf x, .int .i64 (k : Int), .int .i64 (partAt O.comps c k : Int)] 114 true) := by
 obtain ⟨m, rfl, _⟩ := Ae (show 1 ≤ n by omega)
 obtain ⟨b, rfl⟩ := h.Jk hcl
 obtain ⟨b', rfl⟩ := h.TG hp
 obtain ⟨s1, d1, x1⟩ := k93 m s o _ _ O h (by omega) hlen x
 rw [hc] at d1
 have h1 := h.ext x1
 have hl1 := Nat.lt_of_lt_of_le hl x1.nx
 have he1 : s1.get e = _ := (x1.get e hl).trans he
 obtain ⟨p, hpp⟩ : ∃ p, p = partAt O.comps c k := ⟨_, rfl⟩
 obtain ⟨cv, rc, ic, _, sc⟩ := h1.C
 obtain ⟨s2, w2, he2, f2, n2⟩ := wEnt he1 (i := 2) (v := .int .i64 (p : Int)) rfl (by simp)
 have h2 := h1.frE f2 hF
 obtain ⟨pv, rp, ip, _, _⟩ := h2.P
 obtain ⟨s3, w3, h3, f3, n3⟩ := h2.XZ (j := p) (by rw [hpp]; exact hp) (-1)
 obtain ⟨pv3, rp3, ip3, _, _⟩ := h3.P
 have hp3 : p < (setH O.parts p (-1)).length := by rw [CX, hpp]; exact hp
 have rh := h3.rdHome (j := p) hp3
 obtain ⟨s4, d4, p4⟩ := k94' m (by omega) h3 (by show (setH _ _ _).length < _; rw [CX]; exact hlp) c k (CB (setH O.parts p (-1)) p) hcl hk
 have he3 : s3.get e = _ := (f3.get e (by omega) hF).trans he2
 obtain ⟨cb4, pb4, h4, u4⟩ := p4.ex
 refine ⟨s4, ?_, ⟨cb4, pb4, ?_, fun i hi => ?_⟩, ?_, ?_⟩
 · rw [Au 57 c57 rfl, f57_eq]
   have re : s.rd1 e 0 = some (strOf x) := by rw [Ag he]; rfl
   have re1 : s1.rd1 e 1 = some (.int .i64 (k : Int)) := by rw [Ag he1]; rfl
   have re2 : s2.rd1 e 2 = some (.int .i64 (p : Int)) := by rw [Ag he2]; rfl
   have re3 : s3.rd1 e 1 = some (.int .i64 (k : Int)) := by rw [Ag he3]; rfl
   have ro3 : s3.rd1 e 2 = some (.int .i64 (p : Int)) := by rw [Ag he3]; rfl
   have hrc := h1.Pn hcl hk
   rw [← hpp] at hrc
   have a1 : ∀ j, AZ 1 (.pointer (some ⟨b, j * 21, none⟩)) = some (.pointer (some ⟨b, j * 21 + 1, none⟩)) := fun j => rfl
   have a3 : ∀ j, Bo 4 1 (.pointer (some ⟨b, j * 21 + 1, none⟩)) (.int .i64 (k : Int)) = some (.pointer (some ⟨b, j * 21 + (1 + k), none⟩)) := fun j => by rw [FU _ _ _ _ _ _ hk, Nat.mul_one, Nat.add_assoc]
   have ipp := ip p (by rw [hpp]; exact hp)
   have ipp3 := ip3 p hp3
   have nb1 : Nat.ble s1.nx s2.nx = true := Aa.2 (by omega)
   have nb2 : Nat.ble s2.nx s3.nx = true := Aa.2 (by omega)
   have nb3 : Nat.ble s3.nx s4.nx = true := Aa.2 p4.fr.nx
   simp [re, d1, rc, ic c hcl, re1, a1, a3, hrc, w2, rp, re2, ipp, w3, re3, rp3, ro3, ipp3, rh, d4, nb1, nb2, nb3]
 · unfold Off.mend; simp only [← hpp]; exact h4
 · rcases u4 i hi with h5 | h5
   · exact .inl h5
   · exact .inr (by have := x1.nx; omega)
 · exact (Fr.of_ext x1 _).tr ((f2.mono fun i hi => .inr hi).tr ((f3.mono fun i hi => .inl hi).tr (p4.fr.mono fun i hi => .inl hi)))
 · rw [p4.fr.get e (by omega) hF, he3, ← hpp]; rfl
def Off.unmend (O : Off) (c k old : Nat) : Off := ⟨setPart O.comps c k old, setH (O.parts.take (O.parts.length - 1)) old c⟩
theorem k189 (n : Nat) (h : AY s o cb pb O) (hn : O.comps.length + 6 ≤ n) (hlen : O.comps.length < 1000000000) (hlp : O.parts.length < 1000000) (x : List UInt8) (k : Nat) (hk : k < 4) (old : Nat) (e : Nat) (hl : e < s.nx)
 (he : s.get e = some (.cells [strOf x, .int .i64 (k : Int), .int .i64 (old : Int)] 114 true)) (hF : ¬ Di o cb pb e) (c : Nat) (hc : BJ x O.comps 0 = (c : Int)) (hcl : c < O.comps.length) (hp : old + 1 < O.parts.length) :
 ∃ s', AU AB Ah n (.fn 189) [.pointer (some ⟨e, 0, none⟩), .pointer (some ⟨o, 0, none⟩)] s = .ok (.tuple ⟨[]⟩, s') ∧ AY s' o cb pb (O.unmend c k old) ∧ Fr s s' (Di o cb pb) := by
 obtain ⟨m, rfl, _⟩ := Ae (show 1 ≤ n by omega)
 obtain ⟨b, rfl⟩ := h.Jk hcl
 obtain ⟨b', rfl⟩ := h.TG hp
 obtain ⟨s1, d1, x1⟩ := k93 m s o _ _ O h (by omega) hlen x
 rw [hc] at d1
 have h1 := h.ext x1
 have hl1 := Nat.lt_of_lt_of_le hl x1.nx
 have he1 : s1.get e = _ := (x1.get e hl).trans he
 obtain ⟨pv, pv', s2, r1, e1, w2, h2, f2, n2, l1⟩ := h1.fM (k := O.parts.length - 1) (by omega)
 have hol : old < (O.parts.take (O.parts.length - 1)).length := by simp; omega
 obtain ⟨pv2, rp2, ip2, _, _⟩ := h2.P
 obtain ⟨s3, w3, h3, f3, n3⟩ := h2.XZ (j := old) hol c
 obtain ⟨cv, rc, ic, _, sc⟩ := h3.C
 obtain ⟨s4, w4, h4, f4, n4⟩ := h3.fK hcl hk old
 have he2 : s2.get e = _ := (f2.get e (by omega) hF).trans he1
 have he3 : s3.get e = _ := (f3.get e (by omega) hF).trans he2
 refine ⟨s4, ?_, h4, (Fr.of_ext x1 _).tr (f2.tr (f3.tr f4))⟩
 rw [Au 189 c189 rfl, jX]
 have re : s.rd1 e 0 = some (strOf x) := by rw [Ag he]; rfl
 have re2 : s2.rd1 e 2 = some (.int .i64 (old : Int)) := by rw [Ag he2]; rfl
 have re3 : s3.rd1 e 1 = some (.int .i64 (k : Int)) := by rw [Ag he3]; rfl
 have ro3 : s3.rd1 e 2 = some (.int .i64 (old : Int)) := by rw [Ag he3]; rfl
 have a1 : ∀ j, AZ 1 (.pointer (some ⟨b, j * 21, none⟩)) = some (.pointer (some ⟨b, j * 21 + 1, none⟩)) := fun j => rfl
 have a3 : ∀ j, Bo 4 1 (.pointer (some ⟨b, j * 21 + 1, none⟩)) (.int .i64 (k : Int)) = some (.pointer (some ⟨b, j * 21 + (1 + k), none⟩)) := fun j => by rw [FU _ _ _ _ _ _ hk, Nat.mul_one, Nat.add_assoc]
 have i1 : BL .i64 ((O.parts.length : Int) - 1) = ((O.parts.length - 1 : Nat) : Int) := by rw [wrap64 (by omega)]; omega
 have ipp2 := ip2 old hol
 have nb1 : Nat.ble s1.nx s2.nx = true := Aa.2 (by omega)
 have nb2 : Nat.ble s2.nx s3.nx = true := Aa.2 (by omega)
 have nb3 : Nat.ble s3.nx s4.nx = true := Aa.2 (by omega)
 simp [re, d1, r1, l1, i1, e1, w2, rp2, re2, ipp2, w3, re3, ro3, rc, ic c hcl, a1, a3, w4, nb1, nb2, nb3]
end
end Go.Im

/- The ideal machine: how its values, objects and memory stand for those of the model. -/
import Derived.Test.YtojbkocmobkddaaGreatDoorImA1
import Derived.Calls
import Derived.CallsIn
import Derived.RangeFuncLeaves
import Derived.RangeFuncIn
import Derived.OrdersIn
set_option linter.all false
namespace Go.Im
theorem Ej {a b : Nat} (h : a = b) : Nat.beq a b = true := by subst h; exact Nat.beq_refl a
theorem Hr {a b : Nat} (h : a ≠ b) : Nat.beq a b = false := by
 cases hb : Nat.beq a b with
 | false => rfl
 | true => exact absurd (Nat.eq_of_beq_eq_true hb) h
theorem beq_iff {a b : Nat} : Nat.beq a b = true ↔ a = b := ⟨Nat.eq_of_beq_eq_true, Ej⟩
section
variable {α : Type}
@[simp] theorem Tr.get_e (k : Nat) : (Tr.e : Tr α).get k = none := rfl
theorem Tr.get_n0 (l r : Tr α) (v : Option α) : (Tr.n l v r).get 0 = v := rfl
theorem Tr.get_nS (l r : Tr α) (v : Option α) (p : Nat) : (Tr.n l v r).get (p + 1) = if p % 2 = 0 then l.get (p / 2) else r.get (p / 2) := by
 show cond (Nat.beq (Nat.mod p 2) 0) (l.get (Nat.div p 2)) (r.get (Nat.div p 2)) = _
 by_cases h : p % 2 = 0
 · rw [if_pos h]
   have : Nat.beq (Nat.mod p 2) 0 = true := Ej h
   rw [this]; rfl
 · rw [if_neg h]
   have : Nat.beq (Nat.mod p 2) 0 = false := Hr h
   rw [this]; rfl
theorem Tr.setF_e0 (x : α) (d : Nat) : Tr.setF x (d + 1) .e 0 = .n .e (some x) .e := rfl
theorem Tr.setF_n0 (x : α) (d : Nat) (l r : Tr α) (v : Option α) : Tr.setF x (d + 1) (.n l v r) 0 = .n l (some x) r := rfl
theorem Tr.setF_eS (x : α) (d p : Nat) : Tr.setF x (d + 1) .e (p + 1) = if p % 2 = 0 then .n (Tr.setF x d .e (p / 2)) none .e else .n .e none (Tr.setF x d .e (p / 2)) := by
 show cond (Nat.beq (Nat.mod p 2) 0) (Tr.n (Tr.setF x d .e (Nat.div p 2)) none .e) (.n .e none (Tr.setF x d .e (Nat.div p 2))) = _
 by_cases h : p % 2 = 0
 · rw [if_pos h]
   have : Nat.beq (Nat.mod p 2) 0 = true := Ej h
   rw [this]; rfl
 · rw [if_neg h]
   have : Nat.beq (Nat.mod p 2) 0 = false := Hr h
   rw [this]; rfl
theorem Tr.setF_nS (x : α) (d p : Nat) (l r : Tr α) (v : Option α) : Tr.setF x (d + 1) (.n l v r) (p + 1) = if p % 2 = 0 then .n (Tr.setF x d l (p / 2)) v r else .n l v (Tr.setF x d r (p / 2)) := by
 show cond (Nat.beq (Nat.mod p 2) 0) (Tr.n (Tr.setF x d l (Nat.div p 2)) v r) (.n l v (Tr.setF x d r (Nat.div p 2))) = _
 by_cases h : p % 2 = 0
 · rw [if_pos h]
   have : Nat.beq (Nat.mod p 2) 0 = true := Ej h
   rw [this]; rfl
 · rw [if_neg h]
   have : Nat.beq (Nat.mod p 2) 0 = false := Hr h
   rw [this]; rfl
theorem Tr.get_setF (x : α) : ∀ (d k : Nat), k < d → ∀ (t : Tr α) (j : Nat), (Tr.setF x d t k).get j = if j = k then some x else t.get j := by
 intro d
 induction d with
 | zero => intro k hk; omega
 | succ d ih =>
  intro k hk t j
  cases k with
  | zero =>
   cases t with
   | e =>
    rw [Tr.setF_e0]
    cases j with
    | zero => rfl
    | succ j => rw [Tr.get_nS, if_neg (Nat.succ_ne_zero j)]; simp
   | n l v r =>
    rw [Tr.setF_n0]
    cases j with
    | zero => rfl
    | succ j => rw [Tr.get_nS, Tr.get_nS, if_neg (Nat.succ_ne_zero j)]
  | succ p =>
   have hp : p / 2 < d := by omega
   cases t with
   | e =>
    rw [Tr.setF_eS]
    by_cases h : p % 2 = 0
    · rw [if_pos h]
      cases j with
      | zero => rfl
      | succ j =>
       rw [Tr.get_nS]
       by_cases hj : j % 2 = 0
       · rw [if_pos hj, ih _ hp]
         by_cases e : j / 2 = p / 2
         · rw [if_pos e, if_pos (by omega)]
         · rw [if_neg e, if_neg (by omega)]; simp
       · rw [if_neg hj, if_neg (by omega), Tr.get_e, Tr.get_e]
    · rw [if_neg h]
      cases j with
      | zero => rfl
      | succ j =>
       rw [Tr.get_nS]
       by_cases hj : j % 2 = 0
       · rw [if_pos hj, if_neg (by omega), Tr.get_e, Tr.get_e]
       · rw [if_neg hj, ih _ hp]
         by_cases e : j / 2 = p / 2
         · rw [if_pos e, if_pos (by omega)]
         · rw [if_neg e, if_neg (by omega)]; simp
   | n l v r =>
    rw [Tr.setF_nS]
    by_cases h : p % 2 = 0
    · rw [if_pos h]
      cases j with
      | zero => rfl
      | succ j =>
       rw [Tr.get_nS, Tr.get_nS]
       by_cases hj : j % 2 = 0
       · rw [if_pos hj, if_pos hj, ih _ hp]
         by_cases e : j / 2 = p / 2
         · rw [if_pos e, if_pos (by omega)]
         · rw [if_neg e, if_neg (by omega)]
       · rw [if_neg hj, if_neg hj, if_neg (by omega)]
    · rw [if_neg h]
      cases j with
      | zero => rfl
      | succ j =>
       rw [Tr.get_nS, Tr.get_nS]
       by_cases hj : j % 2 = 0
       · rw [if_pos hj, if_pos hj, if_neg (by omega)]
       · rw [if_neg hj, if_neg hj, ih _ hp]
         by_cases e : j / 2 = p / 2
         · rw [if_pos e, if_pos (by omega)]
         · rw [if_neg e, if_neg (by omega)]
theorem Tr.get_set (t : Tr α) (k : Nat) (x : α) (j : Nat) : (t.set k x).get j = if j = k then some x else t.get j :=
 Tr.get_setF x (k + 1) k (by omega) t j
@[simp] theorem Tr.get_set_same (t : Tr α) (k : Nat) (x : α) : (t.set k x).get k = some x := by rw [Tr.get_set, if_pos rfl]
end
theorem Eu {α : Type} : ∀ (l : List α) (i : Nat), nth l i = l[i]?
 | [], i => by simp [nth]
 | a :: l, 0 => by simp [nth]
 | a :: l, i + 1 => by simp [nth, Eu l i]
@[simp] theorem Ep {α β : Type} (a : α) (f : α → Option β) : ob (some a) f = f a := rfl
@[simp] theorem lC {α β : Type} (f : α → Option β) : ob none f = none := rfl
theorem Ag {α β : Type} {x : Option α} {f : α → Option β} {b : β} : ob x f = some b ↔ ∃ a, x = some a ∧ f a = some b := by
 cases x <;> simp
def R.all {α : Type} (Q : α → Prop) : R α → Prop
 | .ok a => Q a
 | .bad _ => False
 | .ch _ k => ∀ i, (k i).all Q
theorem R.all_bind {α β : Type} (x : R α) (f : α → R β) (Q : β → Prop) : (x.bind f).all Q ↔ x.all fun a => (f a).all Q := by
 induction x with
 | ok a => exact Iff.rfl
 | bad n => exact Iff.rfl
 | ch n k ih => exact ⟨fun h i => (ih i).1 (h i), fun h i => (ih i).2 (h i)⟩
theorem R.all_obR {α β : Type} {n : Nat} {x : Option α} {f : α → R β} {Q : β → Prop} (h : (obR n x f).all Q) : ∃ a, x = some a ∧ (f a).all Q := by
 cases x with
 | none => exact h.elim
 | some a => exact ⟨a, rfl, h⟩
theorem R.all_orBad {α : Type} {n : Nat} {x : Option α} {Q : α → Prop} (h : (BI n x).all Q) : ∃ a, x = some a ∧ Q a := by
 cases x with
 | none => exact h.elim
 | some a => exact ⟨a, rfl, h⟩
structure Place where
 blk : Nat
 sh : Nat
 csz : Nat
 esz : Nat
abbrev Map := Nat → Option Place
def Map.le (m m' : Map) : Prop := ∀ b p, m b = some p → m' b = some p
theorem Map.le_refl (m : Map) : m.le m := fun _ _ h => h
theorem Map.le_trans {a b c : Map} (h : a.le b) (k : b.le c) : a.le c := fun i p e => k i p (h i p e)
inductive WM (m : Map) : Fn → Fn → Prop
 | func (f : Nat) : WM m (.func f) (.func f)
 | method (n : String) : WM m (.method n) (.method n)
 | yield {l : Nat} {p : Place} (h : m l = some p) : WM m (.yield l) (.yield p.blk)
mutual
inductive BH (m : Map) : Value → Value → Prop
 | bool (b : Bool) : BH m (.bool b) (.bool b)
 | int (k : IntKind) (n : Int) : BH m (.int k n) (.int k n)
 | string (s : ByteArray) : BH m (.string s) (.string s)
 | ptr0 : BH m (.pointer none) (.pointer none)
 | ptr {b o : Nat} {p : Place} (h : m b = some p) : BH m (.pointer (some ⟨b, o, none⟩)) (.pointer (some ⟨p.blk, p.sh + o, none⟩))
 | sl0 : BH m (.slice none 0 0) (.slice none 0 0)
 | slK {b o n c : Nat} {p : Place} (h : m b = some p) (hc : c < UNK) : BH m (.slice (some ⟨b, o, none⟩) n c) (.slice (some ⟨p.blk, p.sh + o, none⟩) n c)
 | slU {b o n c : Nat} {p : Place} (h : m b = some p) (hc : o + c * p.esz = p.csz) (hz : 0 < p.esz) (hn : n ≤ c) : BH m (.slice (some ⟨b, o, none⟩) n UNK) (.slice (some ⟨p.blk, p.sh + o, none⟩) n c)
 | slE (a : Addr) (c : Nat) : BH m (.slice (some ⟨0, 0, none⟩) 0 UNE) (.slice (some a) 0 c)
 | map0 : BH m (.map none) (.map none)
 | map {b : Nat} {p : Place} (h : m b = some p) : BH m (.map (some b)) (.map (some p.blk))
 | WO : BH m .nilFunc .nilFunc
 | Tf : BH m .nilIface .nilIface
 | iface (t : Nat) {v v' : Value} (h : BH m v v') : BH m (.iface t v) (.iface t v')
 | func {f f' : Fn} {a a' b b' : List Value} (hf : WM m f f') (ha : CJ m a a') (hb : CJ m b b') : BH m (.func f ⟨a⟩ ⟨b⟩) (.func f' ⟨a'⟩ ⟨b'⟩)
 | agg {l l' : List Value} (h : CJ m l l') : BH m (.agg ⟨l⟩) (.agg ⟨l'⟩)
 | tuple {l l' : List Value} (h : CJ m l l') : BH m (.tuple ⟨l⟩) (.tuple ⟨l'⟩)
inductive CJ (m : Map) : List Value → List Value → Prop
 | nil : CJ m [] []
 | cons {v v' : Value} {l l' : List Value} (h : BH m v v') (t : CJ m l l') : CJ m (v :: l) (v' :: l')
end
theorem WM.mono {m m' : Map} (hm : m.le m') {f f' : Fn} (h : WM m f f') : WM m' f f' := by
 cases h with
 | func f => exact .func f
 | method n => exact .method n
 | yield h => exact .yield (hm _ _ h)
mutual
theorem BH.mono {m m' : Map} (hm : m.le m') : ∀ {v v' : Value}, BH m v v' → BH m' v v'
 | _, _, .bool b => .bool b
 | _, _, .int k n => .int k n
 | _, _, .string s => .string s
 | _, _, .ptr0 => .ptr0
 | _, _, .ptr h => .ptr (hm _ _ h)
 | _, _, .sl0 => .sl0
 | _, _, .slK h hc => .slK (hm _ _ h) hc
 | _, _, .slU h hc hz hn => .slU (hm _ _ h) hc hz hn
 | _, _, .slE a c => .slE a c
 | _, _, .map0 => .map0
 | _, _, .map h => .map (hm _ _ h)
 | _, _, .WO => .WO
 | _, _, .Tf => .Tf
 | _, _, .iface t h => .iface t (BH.mono hm h)
 | _, _, .func hf ha hb => .func (hf.mono hm) (CJ.mono hm ha) (CJ.mono hm hb)
 | _, _, .agg h => .agg (CJ.mono hm h)
 | _, _, .tuple h => .tuple (CJ.mono hm h)
theorem CJ.mono {m m' : Map} (hm : m.le m') : ∀ {l l' : List Value}, CJ m l l' → CJ m' l l'
 | _, _, .nil => .nil
 | _, _, .cons h t => .cons (BH.mono hm h) (CJ.mono hm t)
end
theorem CJ.length {m : Map} : ∀ {l l' : List Value}, CJ m l l' → l.length = l'.length
 | _, _, .nil => rfl
 | _, _, .cons _ t => by simp [t.length]
theorem CJ.get {m : Map} : ∀ {l l' : List Value}, CJ m l l' → ∀ (i : Nat) (v : Value), l[i]? = some v → ∃ v', l'[i]? = some v' ∧ BH m v v'
 | _, _, .nil, i, v, h => by simp at h
 | _, _, .cons hv _, 0, v, h => by simp at h; subst h; exact ⟨_, by simp, hv⟩
 | _, _, .cons _ t, i + 1, v, h => by simp at h; simpa using CJ.get t i v h
theorem CJ.of {m : Map} : ∀ {l l' : List Value}, l.length = l'.length → (∀ (i : Nat) (v : Value), l[i]? = some v → ∃ v', l'[i]? = some v' ∧ BH m v v') → CJ m l l'
 | [], [], _, _ => .nil
 | [], _ :: _, h, _ => by simp at h
 | _ :: _, [], h, _ => by simp at h
 | v :: l, v' :: l', h, hg => by
  obtain ⟨u, hu, hr⟩ := hg 0 v (by simp)
  simp at hu; subst hu
  refine .cons hr (CJ.of (by simpa using h) fun i x hx => ?_)
  simpa using hg (i + 1) x (by simpa using hx)
theorem CJ.append {m : Map} : ∀ {a a' b b' : List Value}, CJ m a a' → CJ m b b' → CJ m (a ++ b) (a' ++ b')
 | _, _, _, _, .nil, h => h
 | _, _, _, _, .cons hv t, h => .cons hv (t.append h)
theorem CJ.take {m : Map} : ∀ {l l' : List Value} (n : Nat), CJ m l l' → CJ m (l.take n) (l'.take n)
 | _, _, 0, _ => by simp; exact .nil
 | _, _, n + 1, .nil => by simp; exact .nil
 | _, _, n + 1, .cons h t => by simp only [List.take_succ_cons]; exact .cons h (t.take n)
theorem CJ.drop {m : Map} : ∀ {l l' : List Value} (n : Nat), CJ m l l' → CJ m (l.drop n) (l'.drop n)
 | _, _, 0, h => by simpa using h
 | _, _, n + 1, .nil => by simp; exact .nil
 | _, _, n + 1, .cons _ t => by simp only [List.drop_succ_cons]; exact t.drop n
end Go.Im

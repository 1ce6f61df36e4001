/- The ideal machine: a run that answers true, from a memory of which nothing may be turned, stands for calls that answer true and turn nothing that was there; the contract of the examples of the chapter -/
import Derived.Test.YtojbkocmobkddaaGreatDoorImS19
set_option linter.all false
namespace Go.Im
open Go.Proofs Go.Shelf Go.RowKit
section
variable {X : Cx} {T : MT}
def Yes (r : Value × AA) : Prop := r.1 = .bool true
theorem Ri (hX : Good X T) {tab : Tab} (hT : MI X tab) {N f n : Nat} {args args' : List Value} {s : AA} {m : Map} {w : World} (hR : Rl X m s w) (hn : ∀ b o, s.get b = some o → o.turns = false)
 (ha : CJ m args args') (h : (AU T tab N (.fn f) args s).all Yes) : CallsIn Fence.wide n X.P f ⟨args'⟩ w fun e w' => e = .returned (.bool true) ∧ Below w.heap.size w w' := by
 refine (((OA hX hT N).fn f args s Yes h).2 m w args' n hR ha).mono ?_
 rintro e w' ⟨v, s', v', rfl, hv, hd⟩
 obtain ⟨m', _, hS, hr⟩ := hd.ex
 have hv : v = .bool true := hv
 subst hv
 cases hr
 refine ⟨rfl, hS.os, hS.tape, hS.output, hS.size, fun k hk => hS.frame k hk ?_⟩
 rintro ⟨b, p, o, _, h1, h2, _⟩
 rw [hn b o h1] at h2
 cases h2
def isYes : R (Value × AA) → Bool
 | .ok (.bool true, _) => true
 | _ => false
theorem ZC {r : R (Value × AA)} (h : isYes r = true) : r.all Yes := by
 cases r with
 | ok x =>
  obtain ⟨v, s⟩ := x
  cases v with
  | bool b =>
   cases b with
   | true => rfl
   | false => cases h
  | _ => cases h
 | bad n => cases h
 | ch n k => cases h
noncomputable def OD : AA :=
 ((⟨.e, 9⟩ : AA).new (.cells kindsL 9 false)).put 0 (.cells [.slice (some ⟨9, 0, none⟩) 4 4] 22 false)
theorem Il (b : Nat) : OD.get b = if b = 0 then some (.cells [.slice (some ⟨9, 0, none⟩) 4 4] 22 false) else if b = 9 then some (.cells kindsL 9 false) else none := by
 unfold OD
 rw [AA.get_put, AA.Ak]
 rfl
theorem Hz (b : Nat) (o : CX) (h : OD.get b = some o) : o.turns = false := by
 rw [Il] at h
 split at h
 · obtain rfl := Option.some.inj h; rfl
 · split at h
   · obtain rfl := Option.some.inj h; rfl
   · cases h
theorem ZE {s : AA} (h : TW (s.get 0) = true) : s.get 0 = some (.cells [.slice (some ⟨9, 0, none⟩) 4 4] 22 false) := by
 unfold TW at h
 split at h
 · next b o n c el e =>
   simp only [Bool.and_eq_true] at h
   obtain ⟨⟨⟨⟨h1, h2⟩, h3⟩, h4⟩, h5⟩ := h
   rw [e, Nat.eq_of_beq_eq_true h1, Nat.eq_of_beq_eq_true h2, Nat.eq_of_beq_eq_true h3, Nat.eq_of_beq_eq_true h4, Nat.eq_of_beq_eq_true h5]
 · cases h
theorem Rj : ∀ {l : List Value} {ls : List (List UInt8)}, Ih l (ls.map strOf) = true → l = ls.map strOf
 | [], [], _ => rfl
 | [], _ :: _, h => by simp [Ih] at h
 | _ :: _, [], h => by simp [Ih] at h
 | v :: l, b :: ls, h => by
  simp only [List.map_cons, Ih, Bool.and_eq_true] at h
  rw [List.map_cons, ← Rj h.2]
  cases v <;> try (simp [veqS, strOf] at h; done)
  case string s =>
   have h1 : eqL (toL s) (toL (ofL b)) = true := h.1
   rw [Jh] at h1
   have : toL s = b := of_decide_eq_true h1
   rw [strOf, ← this, JB]
theorem ZF {s : AA} (h : TY (s.get 9) = true) : s.get 9 = some (.cells kindsL 9 false) := by
 unfold TY at h
 split at h
 · next l el e =>
   simp only [Bool.and_eq_true] at h
   rw [e, Nat.eq_of_beq_eq_true h.2]
   have := Rj (ls := [[98, 111, 119, 108], [99, 97, 112], [110, 101, 101, 100, 108, 101], [112, 105, 118, 111, 116]]) h.1
   rw [this]
   rfl
 · cases h
theorem iP (hG : X.G = [0]) {m : Map} {s : AA} {w : World} (hR : Rl X m s w) (h : Lc s = true) : ∃ m0, Rl X m0 OD w := by
 unfold Lc at h
 simp only [Bool.and_eq_true] at h
 have h0 := ZE h.1
 have h9 := ZF h.2
 have hle : ∀ b p, (fun b => if b = 0 ∨ b = 9 then m b else none : Map) b = some p → m b = some p := fun b p hb => by
  simp only at hb
  split at hb
  · exact hb
  · cases hb
 have hon : ∀ b, b = 0 ∨ b = 9 → (fun b => if b = 0 ∨ b = 9 then m b else none : Map) b = m b := fun b hb => by
  simp only; rw [if_pos hb]
 refine ⟨fun b => if b = 0 ∨ b = 9 then m b else none, ?_, ?_, ?_, ?_, ?_⟩
 · intro b p o hb ho
   have hb' := hle b p hb
   rw [Il] at ho
   split at ho
   · next e =>
     subst e
     obtain rfl := Option.some.inj ho
     obtain ⟨o', g1, g2⟩ := hR.obj 0 p _ hb' h0
     refine ⟨o', g1, ?_⟩
     cases g2 with
     | cells hel hsz hlen hc hfr =>
      refine .cells hel hsz hlen (fun i v hi => ?_) hfr
      obtain ⟨v', e1, e2⟩ := hc i v hi
      refine ⟨v', e1, ?_⟩
      cases i with
      | zero =>
       obtain rfl := Option.some.inj hi
       cases e2 with
       | slK hm hcap => exact .slK ((hon 9 (.inr rfl)).trans hm) hcap
      | succ i => simp at hi
   · split at ho
     · next e =>
       subst e
       obtain rfl := Option.some.inj ho
       obtain ⟨o', g1, g2⟩ := hR.obj 9 p _ hb' h9
       refine ⟨o', g1, ?_⟩
       cases g2 with
       | cells hel hsz hlen hc hfr =>
        refine .cells hel hsz hlen (fun i v hi => ?_) hfr
        obtain ⟨v', e1, e2⟩ := hc i v hi
        refine ⟨v', e1, ?_⟩
        have : ∃ t, v = .string t := by
         have hv := List.mem_of_getElem? hi
         simp only [kindsL, List.mem_cons, List.not_mem_nil, or_false] at hv
         rcases hv with rfl | rfl | rfl | rfl <;> exact ⟨_, rfl⟩
        obtain ⟨t, rfl⟩ := this
        cases e2
        exact .string _
     · cases ho
 · intro b p hb
   refine ⟨(hR.rng b p (hle b p hb)).1, ?_⟩
   split at hb
   · next e => rcases e with rfl | rfl <;> decide
   · cases hb
 · intro b b' p p' o o' _ _ ho _ ht
   rw [Hz b o ho] at ht
   cases ht
 · intro g hg
   rw [hG] at hg
   obtain rfl := List.mem_singleton.1 hg
   obtain ⟨p, g1, g2⟩ := hR.glob 0 (by rw [hG]; exact List.mem_singleton.2 rfl)
   exact ⟨p, (hon 0 (.inl rfl)).trans g1, g2⟩
 · exact hR.fix.frame (fun _ _ => rfl) fun b p hb => .inl ⟨b, p, hle b p hb, rfl⟩
theorem U7 (hX : Good X T) (hG : X.G = [0]) {tab : Tab} (hT : MI X tab) {N f : Nat} (he : Enters X f) (h : (AU T tab N (.fn f) [] OD).all Yes) : FN X f .works := by
 refine ⟨he, fun args s r hr m w args' n hR ha => ?_⟩
 unfold Ii at hr
 split at hr <;> try contradiction
 next =>
  obtain ⟨hk, hr⟩ := Dn hr
  obtain rfl := Option.some.inj hr
  cases ha
  obtain ⟨m0, hR0⟩ := iP hG hR hk
  refine (Ri hX hT hR0 Hz .nil h).mono ?_
  rintro e w' ⟨rfl, hb⟩
  exact ⟨_, rfl, KE hR hb (.bool true)⟩
end
end Go.Im

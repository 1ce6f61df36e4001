/- The ideal machine: one operation; regions that are carried out in the order of the text. -/
import Derived.Test.YtojbkocmobkddaaGreatDoorImS13
import Derived.RangeFuncCalls
set_option linter.all false
namespace Go.Im
def L8 (r : Nat) : Deferred := { target := .collected r, args := #[] }
def Marks (m : Map) (w : World) (B : Nat) (ds : List Deferred) : Prop :=
 ∃ rs : List Nat, ds = rs.map L8 ∧ rs.Nodup ∧ ∀ r ∈ rs, B ≤ r ∧ w.heap[r]? = some (.deferred (some [])) ∧ ∀ b p, m b = some p → p.blk ≠ r
theorem FM {w : World} {r : Nat} {o : Obj} (h : w.heap[r]? = some o) : r < w.heap.size := by
 rcases Nat.lt_or_ge r w.heap.size with g | g
 · exact g
 · rw [Array.getElem?_eq_none g] at h; simp at h
theorem Marks.step {m m' : Map} {s s' : AA} {w w' : World} {B : Nat} {ds : List Deferred} (h : Marks m w B ds) (hs : Step m s w m' s' w') : Marks m' w' B ds := by
 obtain ⟨rs, e, hn, h⟩ := h
 refine ⟨rs, e, hn, fun r hr => ?_⟩
 obtain ⟨h1, h2, h3⟩ := h r hr
 have hlt := FM h2
 refine ⟨h1, ?_, fun b p hb e => ?_⟩
 · rw [hs.frame r hlt]; · exact h2
   rintro ⟨b, p, o, hb, _, _, e⟩
   exact h3 b p hb e
 · obtain ⟨b0, p0, h4, h5⟩ := hs.J8 b p hb (by omega)
   exact h3 b0 p0 h4 (by omega)
structure St (X : Cx) (nt B : Nat) (m : Map) (env : Env) (s : AA) (a : Act) (w : World) : Prop where
 env : CB m env a.tmps
 rl : Rl X m s w
 sz : a.tmps.size = nt
 marks : Marks m w B a.defers
 low : B ≤ w.heap.size
inductive Fen : Fence → Bool → Prop
 | wide : Fen Fence.wide false
 | round (l : Nat) : Fen (Fence.wide.inRound l) true
theorem Fen.fn {F : Fence} {b : Bool} (h : Fen F b) (f : Nat) : F.fn f := by cases h <;> trivial
theorem Fen.depth {F : Fence} {b : Bool} (h : Fen F b) : F.depth = none := by cases h <;> rfl
theorem Fen.calls {F : Fence} {b : Bool} (h : Fen F b) {n : Nat} {P : Program} {f : FuncId} {args : Array Value} {w : World} {R : Ending → World → Prop} (hc : CallsIn Fence.wide n P f args w R) : CallsIn F n P f args w R := by
 cases h with
 | wide => exact hc
 | round l => exact hc
theorem Fen.rounds {F : Fence} {b : Bool} (h : Fen F b) {n : Nat} {P : Program} {l f : Nat} {tmps : Array Value} {x y : Code} {w : World} {R : Ending → World → Prop} (hc : RoundIn Fence.wide n P l f tmps x y w R) : RoundIn F n P l f tmps x y w R := by
 cases h with
 | wide => exact hc
 | round l' => exact hc
structure Gx (X : Cx) (sf : Self) : Prop where
 fn : ∀ (f : Nat) (args : List Value) (s : AA) (Q : Value × AA → Prop), (sf (.fn f) args s).all Q →
  (∃ fn c, X.P.funcs[f]? = some fn ∧ fn.body = some c ∧ (fn.name == "runtime.NumGoroutine") = false) ∧
  ∀ (m : Map) (w : World) (args' : List Value) (n : Nat), Rl X m s w → CJ m args args' → CallsIn Fence.wide n X.P f ⟨args'⟩ w fun e w' => ∃ v s' v', e = .returned v' ∧ Q (v, s') ∧ Did X m s w v s' v' w'
 yl : ∀ (l : Nat) (args : List Value) (s : AA) (Q : Value × AA → Prop), (sf (.yl l) args s).all Q →
  ∀ (m : Map) (w : World) (p : Place) (args' : List Value) (n : Nat), Rl X m s w → CJ m args args' → m l = some p →
   ∃ f tmps x y, (Instr.yield p.blk ⟨args'⟩).run X.P w = .ok (.round p.blk f tmps x y) w ∧ RoundIn Fence.wide n X.P p.blk f tmps x y w fun e w' => ∃ v s' v', e = .returned v' ∧ Q (v, s') ∧ Did X m s w v s' v' w'
section
variable {X : Cx} {T : MT} {self : Self} {m : Map} {s : AA} {w : World} {env : Env} {a : Act} {F : Fence} {inR : Bool} {n : Nat}
theorem MF {P : Program} {f : Nat} {fn : Func} {c : Code} {args : Array Value} (hf : P.funcs[f]? = some fn) (hb : fn.body = some c) (hn : (fn.name == "runtime.NumGoroutine") = false) (w : World) :
 (callFunc f args).run P w = .ok (.enter f args) w := by
 simp only [callFunc, Sem.run_bind]
 simp [program, Sem.run, Result.andThen, hf, hn, hb]
def WV (X : Cx) (m : Map) (s : AA) (w : World) (Qs : Value × AA → Prop) (o : Oper) (a : Act) (K : Act → World → Prop) : Prop :=
 ∀ v s' v' w', Qs (v, s') → Did X m s w v s' v' w' → K (a.put o.dst v') w'
theorem iC (hT : VB X.P T) (hS : Gx X self) (hF : Fen F inR) {o : WOp} {op : Op} {TK : List Nat} {dst : Option Nat} {type : Nat} {pos : String} {after : Array Edge} {guard : Option (Nat × Bool)}
 (hok : okW X.P X.G TK o op = true) (hc : o.calls = true) {Qs : Value × AA → Prop} (h : (TU T self env s o).all Qs) (hE : CB m env a.tmps) (hR : Rl X m s w)
 {Q : Exit → Act → World → Prop} {K : Act → World → Prop} (hK : WV X m s w Qs ⟨dst, op, type, pos, after, guard⟩ a K) :
 (⟨dst, op, type, pos, after, guard⟩ : Oper).uponIn F n X.P a K Q ((execOp a.eval ⟨dst, op, type, pos, after, guard⟩).run X.P w) := by
 have hG : OY X.G m := hR.glob
 have enter : ∀ {f : Nat} {args args' : List Value}, (self (.fn f) args s).all Qs → CJ m args args' → ((callFunc f ⟨args'⟩).run X.P w = .ok (.enter f ⟨args'⟩) w) ∧
  (⟨dst, op, type, pos, after, guard⟩ : Oper).uponIn F n X.P a K Q (.ok (.enter f ⟨args'⟩) w) := by
  intro f args args' hq hl
  obtain ⟨⟨fn, c, h1, h2, h3⟩, h4⟩ := hS.fn f args s Qs hq
  refine ⟨MF h1 h2 h3 w, ?_⟩
  rw [Oper.uponIn_enter]
  refine ⟨fun hd => by rw [hF.depth] at hd; simp at hd, (hF.calls (h4 m w args' (n - 1) hR hl)).mono ?_⟩
  rintro e w' ⟨v, s', v', rfl, hq', hd⟩
  exact hK v s' v' w' hq' hd
 have evL : ∀ {as : Array Operand}, (as.map a.eval) = ⟨as.toList.map a.eval⟩ := fun {as} => by apply Array.ext'; simp
 unfold okW at hok
 split at hok
 · simp [WOp.calls] at hc
 · simp [WOp.calls] at hc
 · simp [WOp.calls] at hc
 · simp [WOp.calls] at hc
 · next f as f' as' ats =>
   simp only [Bool.and_eq_true] at hok
   obtain ⟨g, hg, h1⟩ := R.all_obR (show (obR 17 (ev env f) fun g => obR 18 (evs env as) fun vs => E8 self vs s g).all Qs from h)
   obtain ⟨vs, hvs, h2⟩ := R.all_obR h1
   have hrg := Bd hE hG hok.1 hg
   have hrv := J9 hE hG hok.2 hvs
   generalize hfv : a.eval f' = fv at hrg
   cases hrg <;> try exact h2.elim
   case func fn fn' la la' lb lb' hf ha hb =>
    cases hf with
    | func f0 =>
     have h3 : (self (.fn f0) (la ++ (vs ++ lb)) s).all Qs := h2
     obtain ⟨e1, e2⟩ := enter h3 (ha.append (hrv.append hb))
     have hrun : (execOp a.eval ⟨dst, .call ⟨.value f', as', ats⟩, type, pos, after, guard⟩).run X.P w = .ok (.enter f0 ⟨la' ++ (as'.toList.map a.eval ++ lb')⟩) w := by
      have WW : ((⟨la'⟩ : Array Value) ++ as'.map a.eval ++ (⟨lb'⟩ : Array Value)) = ⟨la' ++ (as'.toList.map a.eval ++ lb')⟩ := by apply Array.ext'; simp
      have e1' := e1
      rw [← WW] at e1' ⊢
      simp only [execOp, Sem.run_bind, resolve, hfv, Deferred.ofValue, Sem.run_pure, Result.andThen, invoke]
      exact e1'
     rw [hrun]; exact e2
    | method nm => exact h2.elim
    | @yield l p hl =>
     have h3 : (self (.yl l) (la ++ vs) s).all Qs := h2
     obtain ⟨f0, tmps, x, y, e1, e2⟩ := hS.yl l (la ++ vs) s Qs h3 m w p (la' ++ as'.toList.map a.eval) (n - 1) hR (ha.append hrv) hl
     have hrun : (execOp a.eval ⟨dst, .call ⟨.value f', as', ats⟩, type, pos, after, guard⟩).run X.P w = .ok (.round p.blk f0 tmps x y) w := by
      have WW : ((⟨la'⟩ : Array Value) ++ as'.map a.eval) = ⟨la' ++ as'.toList.map a.eval⟩ := by apply Array.ext'; simp
      rw [← WW] at e1
      simp only [execOp, Sem.run_bind, resolve, hfv, Deferred.ofValue, Sem.run_pure, Result.andThen, invoke]
      exact e1
     rw [hrun, Oper.uponIn_round]
     refine ⟨fun hd => by rw [hF.depth] at hd; simp at hd, (hF.rounds e2).mono ?_⟩
     rintro e w' ⟨v, s', v', rfl, hq', hd⟩
     exact hK v s' v' w' hq' hd
 · next k _ => exact h.elim
 · next x nm as x' nm' as' ats =>
   simp only [Bool.and_eq_true, decide_eq_true_eq] at hok
   obtain ⟨⟨hx, rfl⟩, has⟩ := hok
   obtain ⟨g, hg, h1⟩ := R.all_obR (show (obR 19 (ev env x) fun g => obR 20 (evs env as) fun vs => invV T self nm vs s g).all Qs from h)
   obtain ⟨vs, hvs, h2⟩ := R.all_obR h1
   have hrg := Bd hE hG hx hg
   have hrv := J9 hE hG has hvs
   generalize hfv : a.eval x' = fv at hrg
   match g, h2, hrg with
   | .iface t (.pointer (some ad)), h2, hrg =>
    cases hrg with
    | iface _ hp =>
     cases hp with
     | @ptr b o p hm =>
      simp only [invV] at h2
      split at h2
      · next f0 hf0 =>
        obtain ⟨e1, e2⟩ := enter h2 (.cons (.ptr hm) hrv)
        have hmeth := fun ad => (hT t nm f0 hf0 ad w).1
        have hrun : (execOp a.eval ⟨dst, .call ⟨.invoke x' nm, as', ats⟩, type, pos, after, guard⟩).run X.P w = .ok (.enter f0 ⟨.pointer (some ⟨p.blk, p.sh + o, none⟩) :: as'.toList.map a.eval⟩) w := by
         have WW : (#[Value.pointer (some ⟨p.blk, p.sh + o, none⟩)] ++ (#[Value.iface t (.pointer (some ⟨p.blk, p.sh + o, none⟩))] ++ as'.map a.eval).extract 1 (#[Value.iface t (.pointer (some ⟨p.blk, p.sh + o, none⟩))] ++ as'.map a.eval).size) = ⟨.pointer (some ⟨p.blk, p.sh + o, none⟩) :: as'.toList.map a.eval⟩ := by
          apply Array.ext'; simp [List.take_of_length_le]
         have e1' := e1
         rw [← WW] at e1' ⊢
         have h0 : (#[Value.iface t (.pointer (some ⟨p.blk, p.sh + o, none⟩))] ++ as'.map a.eval)[0]? = some (Value.iface t (.pointer (some ⟨p.blk, p.sh + o, none⟩))) := by rw [Array.getElem?_append_left (by simp)]; rfl
         simp only [execOp, Sem.run_bind, resolve, hfv, Sem.run_pure, Result.andThen, invoke, h0, callMethod]
         simp only [program, Sem.run, hmeth]
         exact e1'
        rw [hrun]; exact e2
      · exact h2.elim
 · simp at hok
end
end Go.Im

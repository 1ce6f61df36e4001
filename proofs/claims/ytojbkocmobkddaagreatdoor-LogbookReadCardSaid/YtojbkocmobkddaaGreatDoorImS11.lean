/- The ideal machine: append stands for the model's. -/
import Derived.Test.YtojbkocmobkddaaGreatDoorImS10
set_option linter.all false
namespace Go.Im
section
variable {P : Program}
inductive Src (P : Program) (el n by_ t2 : Nat) (x : Value) (k : Nat) (news : List Value) (w : World) : Prop
 | cells (d : TypeDesc) (h2 : P.underlying t2 = some d) (hi : (∃ e, d = .slice e) ∨ d = .string) (hl : ∀ w1, (Builtin.lenOf x).run P w1 = .ok k w1)
  (hf : (Builtin.firstCells n k x).run P w = .ok ⟨news⟩ w) (hf' : (Builtin.firstCells n k x).run P w.drew = .ok ⟨news⟩ w.drew)
 | zeros (ki : IntKind) (zv : Value) (h2 : P.underlying t2 = some (.int ki)) (hx : x = .int .i64 (k : Int)) (hb : k * by_ ≤ 140737488355328) (hU : k < 9223372036854775808) (hz : Gs P el = some zv) (hzs : zv.cells.size = n)
  (hn : news = (Builtin.zeroCells zv.cells k).toList)
variable {el n by_ t t2 ty : Nat} {x : Value} {k : Nat} {news : List Value} {w : World}
theorem JV (z : Array Value) (k : Nat) (h : k * z.size = 0) : Builtin.zeroCells z k = #[] := by
 simp [Builtin.zeroCells, h, Array.range_zero']
theorem U0 (ht : P.underlying t = some (.slice el)) (hn : isz P el = some n) (hb : iby P el = some by_) (hs : Src P el n by_ t2 x 0 [] w) :
 (Builtin.append_ #[t, t2] ty #[.slice none 0 0, x]).run P w = .ok (.slice none 0 0) w := by
 obtain ⟨i, hi, his⟩ := Jk hn
 have hib : i.bytes = by_ := by simp only [iby, hi, Option.map_some, Option.some.injEq] at hb; exact hb
 cases hs with
 | cells d h2 hi' hl hf hf' =>
  rcases hi' with ⟨e, rfl⟩ | rfl <;> simp [Builtin.append_, run_underlying ht, run_underlying h2, sizeOf, typeInfo, hi, his, hl, hf]
 | zeros ki zv h2 hx hb' hU hz hzs hnn =>
  subst hx
  simp [Builtin.append_, run_underlying ht, run_underlying h2, sizeOf, typeInfo, hi, his, asInt, asIntOf, wrap_i64]
theorem JE (ht : P.underlying t = some (.slice el)) (hn : isz P el = some n) (hb : iby P el = some by_) (hs : Src P el n by_ t2 x k news w) {a : Addr} {sLen sCap : Nat} (hroom : sLen + k ≤ sCap) {w' : World}
 (hst : (storeCells (a.add (sLen * n)) news).run P w = .ok () w') :
 (Builtin.append_ #[t, t2] ty #[.slice (some a) sLen sCap, x]).run P w = .ok (.slice (some a) (sLen + k) sCap) w' := by
 obtain ⟨i, hi, his⟩ := Jk hn
 have hib : i.bytes = by_ := by simp only [iby, hi, Option.map_some, Option.some.injEq] at hb; exact hb
 cases hs with
 | cells d h2 hi' hl hf hf' =>
  rcases hi' with ⟨e, rfl⟩ | rfl <;> simp [Builtin.append_, run_underlying ht, run_underlying h2, sizeOf, typeInfo, hi, his, hl, hf, hroom, hst]
 | zeros ki zv h2 hx hb' hU hz hzs hnn =>
  subst hx
  subst hnn
  have hw : IntKind.i64.wrap (k : Int) = k := wrap_i64 _ (by omega)
  have hk0 : ¬ ((k : Int) < 0) := by omega
  have h48 : ¬ (281474976710656 < (k : Int) * (by_ : Int)) := by
   rw [← Int.natCast_mul]; omega
  by_cases e : k * n = 0
  · simp [Builtin.append_, run_underlying ht, run_underlying h2, sizeOf, typeInfo, hi, his, hib, asInt, asIntOf, hw, h48, hk0, hroom, e]
    rw [JV _ _ (by rw [hzs]; exact e)] at hst
    simp [hst]
  · simp [Builtin.append_, run_underlying ht, run_underlying h2, sizeOf, typeInfo, hi, his, hib, asInt, asIntOf, hw, h48, hk0, hroom, e, Eo hz, hst]
theorem JF (ht : P.underlying t = some (.slice el)) (hn : isz P el = some n) (hb : iby P el = some by_) {zv : Value} (hz : Gs P el = some zv) (hs : Src P el n by_ t2 x k news w) {base : Option Addr} {sLen sCap : Nat} (hg : sCap < sLen + k)
 {olds : List Value} (ho : (Builtin.firstCells n sLen (.slice base sLen sCap)).run P w.drew = .ok ⟨olds⟩ w.drew) (h63 : sLen + k < 9223372036854775808) (h48 : (sLen + k) * by_ ≤ 140737488355328) (hby : by_ ≠ 0) :
 (Builtin.append_ #[t, t2] ty #[.slice base sLen sCap, x]).run P w =
  .ok (.slice (some ⟨w.heap.size, 0, none⟩) (sLen + k) (grownCap w (sLen + k) sCap el))
   { w with heap := w.heap.push (.cells ⟨olds ++ (news ++ (Builtin.zeroCells zv.cells (grownCap w (sLen + k) sCap el - (sLen + k))).toList)⟩ el (0, 0)), drawn := w.drawn + 1 } := by
 obtain ⟨i, hi, his⟩ := Jk hn
 have hib : i.bytes = by_ := by simp only [iby, hi, Option.map_some, Option.some.injEq] at hb; exact hb
 have hroom : ¬ (sLen + k ≤ sCap) := by omega
 have h63' : ¬ (9223372036854775807 < ((sLen : Int) + (k : Int))) := by omega
 have h48' : ¬ (281474976710656 < Builtin.nextslicecap (sLen + k) sCap * by_) := by
  have := growslice_fits hg h48
  omega
 have fin : ∀ (A B : List Value) (C : Array Value), (w.drew.alloc (.cells ((⟨A⟩ : Array Value) ++ ((⟨B⟩ : Array Value) ++ C)) el) : World) = { w with heap := w.heap.push (.cells ⟨A ++ (B ++ C.toList)⟩ el (0, 0)), drawn := w.drawn + 1 } := by
  intro A B C
  have : ((⟨A⟩ : Array Value) ++ ((⟨B⟩ : Array Value) ++ C)) = ⟨A ++ (B ++ C.toList)⟩ := by apply Array.ext'; simp
  rw [this]; rfl
 cases hs with
 | cells d h2 hi' hl hf hf' =>
  rcases hi' with ⟨e, rfl⟩ | rfl
  · simp [Builtin.append_, run_underlying ht, run_underlying h2, sizeOf, typeInfo, hi, his, hib, hl, hf', hroom, h63', h48', hby, Question.forced, ho, Eo hz, newRow]
    exact ⟨rfl, fin _ _ _⟩
  · simp [Builtin.append_, run_underlying ht, run_underlying h2, sizeOf, typeInfo, hi, his, hib, hl, hf', hroom, h63', h48', hby, Question.forced, ho, Eo hz, newRow]
    exact ⟨rfl, fin _ _ _⟩
 | zeros ki zv' h2 hx hb' hU hz' hzs hnn =>
  obtain rfl := Option.some.inj (hz.symm.trans hz')
  subst hx
  subst hnn
  have hw : IntKind.i64.wrap (k : Int) = k := wrap_i64 _ (by omega)
  have hk0 : ¬ ((k : Int) < 0) := by omega
  have h48a : ¬ (281474976710656 < (k : Int) * (by_ : Int)) := by
   rw [← Int.natCast_mul]; omega
  by_cases e : k * n = 0
  · simp [Builtin.append_, run_underlying ht, run_underlying h2, sizeOf, typeInfo, hi, his, hib, asInt, asIntOf, hw, h48a, hk0, hroom, h63', h48', hby, Question.forced, ho, Eo hz, newRow, e]
    refine ⟨rfl, ?_⟩
    rw [JV zv.cells k (by rw [hzs]; exact e)]
    have := fin olds [] (Builtin.zeroCells zv.cells (grownCap w (sLen + k) sCap el - (sLen + k)))
    simp only [List.nil_append] at this
    refine Eq.trans ?_ this
    have e2 : ((⟨[]⟩ : Array Value) ++ Builtin.zeroCells zv.cells (grownCap w (sLen + k) sCap el - (sLen + k))) = Builtin.zeroCells zv.cells (grownCap w (sLen + k) sCap el - (sLen + k)) := by apply Array.ext'; simp
    rw [e2]; rfl
  · simp [Builtin.append_, run_underlying ht, run_underlying h2, sizeOf, typeInfo, hi, his, hib, asInt, asIntOf, hw, h48a, hk0, hroom, h63', h48', hby, Question.forced, ho, Eo hz, newRow, e]
    refine ⟨rfl, ?_⟩
    have := fin olds (Builtin.zeroCells zv.cells k).toList (Builtin.zeroCells zv.cells (grownCap w (sLen + k) sCap el - (sLen + k)))
    exact this
end
end Go.Im

/- Plain law: lines that are laid together are read. -/
import Derived.Test.YtojbkocmobkddaaGreatDoorImQT
import Derived.Test.YtojbkocmobkddaaGreatDoorImHM
import Derived.KernelRfl
set_option linter.all false
set_option maxRecDepth 100000
set_option maxHeartbeats 4000000
namespace Go.Im
def gw (p : List UInt8) : Prop := p ≠ [] ∧ ∀ b ∈ p, 32 < b.toNat ∧ b.toNat ≤ 126
theorem TS {a : List UInt8} (h : nameB a = true) : gw a := by
 unfold nameB at h
 rw [Bool.and_eq_true] at h
 have h1 := of_decide_eq_true h.1
 refine ⟨fun e => by rw [e] at h1; simp at h1, fun b hb => ?_⟩
 have := List.all_eq_true.1 h.2 b hb
 unfold isLow at this
 have := of_decide_eq_true this
 omega
theorem kJ {k : Nat} (hk : k < 4) : gw (Eh k) := by
 match k, hk with
 | 0, _ => exact ⟨by decide, by decide⟩
 | 1, _ => exact ⟨by decide, by decide⟩
 | 2, _ => exact ⟨by decide, by decide⟩
 | 3, _ => exact ⟨by decide, by decide⟩
theorem Gt (r : List UInt8) : ∀ (p : List UInt8) (last : Nat), (∀ b ∈ p, 32 < b.toNat ∧ b.toNat ≤ 126) → (p = [] → last ≠ 32) → CJ (p ++ 32 :: r) last = CJ r 32
 | [], last, _, h => by
  show cond (decide ((32 : UInt8).toNat < 32) || decide (126 < (32 : UInt8).toNat) || (decide ((32 : UInt8).toNat = 32) && decide (last = 32))) false (CJ r 32) = _
  have : decide (last = 32) = false := decide_eq_false (h rfl)
  rw [this]; rfl
 | c :: p, last, hp, _ => by
  have hc := hp c (by simp)
  show cond (decide (c.toNat < 32) || decide (126 < c.toNat) || (decide (c.toNat = 32) && decide (last = 32))) false (CJ (p ++ 32 :: r) c.toNat) = _
  rw [decide_eq_false (show ¬ c.toNat < 32 by omega), decide_eq_false (show ¬ 126 < c.toNat by omega), decide_eq_false (show ¬ c.toNat = 32 by omega)]
  exact Gt r p c.toNat (fun b hb => hp b (by simp [hb])) fun _ => by omega
theorem Iy : ∀ (p : List UInt8) (last : Nat), (∀ b ∈ p, 32 < b.toNat ∧ b.toNat ≤ 126) → (p = [] → last ≠ 32) → CJ p last = true
 | [], last, _, h => decide_eq_true (h rfl)
 | c :: p, last, hp, _ => by
  have hc := hp c (by simp)
  show cond (decide (c.toNat < 32) || decide (126 < c.toNat) || (decide (c.toNat = 32) && decide (last = 32))) false (CJ p c.toNat) = _
  rw [decide_eq_false (show ¬ c.toNat < 32 by omega), decide_eq_false (show ¬ 126 < c.toNat by omega), decide_eq_false (show ¬ c.toNat = 32 by omega)]
  exact Iy p c.toNat (fun b hb => hp b (by simp [hb])) fun _ => by omega
theorem Fq (r : List UInt8) : ∀ (p : List UInt8), (∀ b ∈ p, 32 < b.toNat ∧ b.toNat ≤ 126) → BF 32 (p ++ 32 :: r) = p :: BF 32 r
 | [], _ => by
  show cond (Nat.beq (32 : UInt8).toNat (32 : UInt8).toNat) ([] :: BF 32 r) (pushB 32 (BF 32 r)) = _
  rfl
 | c :: p, hp => by
  have hc := hp c (by simp)
  show cond (Nat.beq c.toNat (32 : UInt8).toNat) ([] :: BF 32 (p ++ 32 :: r)) (pushB c (BF 32 (p ++ 32 :: r))) = _
  rw [Gv (show c.toNat ≠ (32 : UInt8).toNat by show c.toNat ≠ 32; omega), Fq r p fun b hb => hp b (by simp [hb])]
  rfl
theorem Jd : ∀ (p : List UInt8), (∀ b ∈ p, 32 < b.toNat ∧ b.toNat ≤ 126) → BF 32 p = [p]
 | [], _ => rfl
 | c :: p, hp => by
  have hc := hp c (by simp)
  show cond (Nat.beq c.toNat (32 : UInt8).toNat) ([] :: BF 32 p) (pushB c (BF 32 p)) = _
  rw [Gv (show c.toNat ≠ (32 : UInt8).toNat by show c.toNat ≠ 32; omega), Jd p fun b hb => hp b (by simp [hb])]
  rfl
theorem TT : gw Fe := ⟨by decide, by decide⟩
theorem QD : gw Dp := ⟨by decide, by decide⟩
theorem gu {a : List UInt8} (h : nameB a = true) : DZ (CV ++ a) = .ok (.new a) := by
 have ga := TS h
 have hl := Jp h
 have e : CV ++ a = Fe ++ 32 :: a := rfl
 have w : CJ (Fe ++ 32 :: a) 32 = true := by rw [Gt a Fe 32 TT.2 (fun e => absurd e TT.1)]; exact Iy a 32 ga.2 (fun e => absurd e ga.1)
 have sp : BF 32 (Fe ++ 32 :: a) = [Fe, a] := by rw [Fq a Fe TT.2, Jd a ga.2]
 rw [e]
 unfold DZ
 rw [if_neg (by show ¬ 60 < (Fe ++ 32 :: a).length; rw [List.length_append, List.length_cons]; show ¬ 60 < 3 + (a.length + 1); omega), if_pos w, sp]
 unfold Ez
 have f : G5 (wd [Fe, a] 0) = some [78] := rfl
 rw [f]
 show (if 2 ≠ 2 then _ else if Bg decimal 68 [78] [a] = true then _ else if Bg nameB 78 [78] [a] = true then _ else if Bg isKind 75 [78] [a] = true then _ else if _ then _ else _) = _
 rw [if_neg (by decide), if_neg (by simp [Bg]), if_neg (by simp [Bg, h]), if_neg (by simp [Bg]), if_neg (fun e => by cases e.1)]
 rfl
def BP (a b : List UInt8) (k : Nat) : List UInt8 := ((((Cj ++ a) ++ [32]) ++ b) ++ [32]) ++ Eh k
theorem Yx {a b : List UInt8} (ha : nameB a = true) (hb : nameB b = true) {k : Nat} (hk : k < 4) : DZ (BP a b k) = .ok (.swap a b (k : Int)) := by
 have ga := TS ha
 have gb := TS hb
 have gk := kJ hk
 have la := Jp ha
 have lb := Jp hb
 have lk := Jq k
 have e : BP a b k = Dp ++ 32 :: (a ++ 32 :: (b ++ 32 :: Eh k)) := by
  unfold BP
  have : Cj = Dp ++ [32] := rfl
  rw [this]; simp
 have w : CJ (Dp ++ 32 :: (a ++ 32 :: (b ++ 32 :: Eh k))) 32 = true := by
  rw [Gt _ Dp 32 QD.2 (fun e => absurd e QD.1), Gt _ a 32 ga.2 (fun e => absurd e ga.1), Gt _ b 32 gb.2 (fun e => absurd e gb.1)]
  exact Iy _ 32 gk.2 (fun e => absurd e gk.1)
 have sp : BF 32 (Dp ++ 32 :: (a ++ 32 :: (b ++ 32 :: Eh k))) = [Dp, a, b, Eh k] := by
  rw [Fq _ Dp QD.2, Fq _ a ga.2, Fq _ b gb.2, Jd _ gk.2]
 have ki : DU (Eh k) = (k : Int) := by
  match k, hk with
  | 0, _ => rfl
  | 1, _ => rfl
  | 2, _ => rfl
  | 3, _ => rfl
 have isk : isKind (Eh k) = true := by unfold isKind; rw [ki]; exact decide_eq_true (by omega)
 rw [e]
 unfold DZ
 have l60 : ¬ 60 < (Dp ++ 32 :: (a ++ 32 :: (b ++ 32 :: Eh k))).length := by
  simp only [List.length_append, List.length_cons]
  show ¬ 60 < 4 + (a.length + (b.length + ((Eh k).length + 1) + 1) + 1)
  omega
 rw [if_neg l60, if_pos w, sp]
 unfold Ez
 have f : G5 (wd [Dp, a, b, Eh k] 0) = some [78, 78, 75] := rfl
 rw [f]
 show (if 4 ≠ 4 then _ else if Bg decimal 68 [78, 78, 75] [a, b, Eh k] = true then _ else if Bg nameB 78 [78, 78, 75] [a, b, Eh k] = true then _ else if Bg isKind 75 [78, 78, 75] [a, b, Eh k] = true then _ else if _ then _ else _) = _
 rw [if_neg (by decide), if_neg (by simp [Bg]), if_neg (by simp [Bg, ha, hb]), if_neg (by simp [Bg, isk]), if_neg (fun e => by cases e.1)]
 show Except.ok (Ord.swap a b (DU (Eh k))) = _
 rw [ki]
theorem Nq (c : UInt8) : ∀ (x : List UInt8) (p q : List UInt8), BF c x = [p, q] → x = p ++ c :: q
 | [], p, q, h => by cases h
 | b :: l, p, q, h => by
  have h : cond (Nat.beq b.toNat c.toNat) ([] :: BF c l) (pushB b (BF c l)) = [p, q] := h
  cases hb : Nat.beq b.toNat c.toNat with
  | true =>
   rw [hb] at h
   have h : [] :: BF c l = [p, q] := h
   injection h with h1 h2
   have := Kr c l q h2
   have bc : b = c := UInt8.toNat_inj.1 (Nat.eq_of_beq_eq_true hb)
   rw [← h1, this, bc]; rfl
  | false =>
   rw [hb] at h
   have h : pushB b (BF c l) = [p, q] := h
   cases hs : BF c l with
   | nil => have := GZ c l; rw [hs] at this; simp at this
   | cons y r =>
    rw [hs] at h
    have h : (b :: y) :: r = [p, q] := h
    injection h with h1 h2
    subst h2
    rw [Nq c l y q hs, ← h1]; rfl
theorem Yy {W : List (List UInt8)} {a : List UInt8} (h : Ez W = .ok (.new a)) : W = [Fe, a] := by
 unfold Ez at h
 split at h
 · simp at h
 · rename_i fm hf
   by_cases hl : W.length ≠ fm.length + 1
   · rw [if_pos hl] at h; simp at h
   · rw [if_neg hl] at h
     have hl := Classical.not_not.1 hl
     by_cases h1 : Bg decimal 68 fm (W.drop 1) = true
     · rw [if_pos h1] at h; simp at h
     · rw [if_neg h1] at h
       by_cases h2 : Bg nameB 78 fm (W.drop 1) = true
       · rw [if_pos h2] at h; simp at h
       · rw [if_neg h2] at h
         by_cases h3 : Bg isKind 75 fm (W.drop 1) = true
         · rw [if_pos h3] at h; simp at h
         · rw [if_neg h3] at h
           by_cases h4 : fm = [78, 68, 68] ∧ (CZ (wd W 2) 0 7 && CZ (wd W 3) (-300) 300) = false
           · rw [if_pos h4] at h; simp at h
           · rw [if_neg h4] at h
             have h := (Except.ok.inj h).symm
             unfold G5 F7 at hf
             unfold HY at h
             by_cases c1 : wd W 0 = Fe
             · rw [if_pos c1] at h hf
               have hf := Option.some.inj hf
               have hf : fm = [78] := hf.symm
               subst hf
               obtain ⟨u, v, rfl⟩ := len2 hl
               injection h with h
               have c1 : u = Fe := c1
               have h : a = v := h
               rw [c1, h]
             · rw [if_neg c1] at h
               by_cases c2 : wd W 0 = Dp
               · rw [if_pos c2] at h; cases h
               · rw [if_neg c2] at h
                 by_cases c3 : wd W 0 = G9
                 · rw [if_pos c3] at h; cases h
                 · rw [if_neg c3] at h
                   by_cases c4 : wd W 0 = J7
                   · rw [if_pos c4] at h; cases h
                   · rw [if_neg c4] at h; cases h
theorem Yz {x a : List UInt8} (h : DZ x = .ok (.new a)) : x = CV ++ a := by
 unfold DZ at h
 by_cases c : 60 < x.length
 · rw [if_pos c] at h; simp at h
 · rw [if_neg c] at h
   by_cases c2 : CJ x 32 = true
   · rw [if_pos c2] at h; exact Nq 32 x Fe a (Yy h)
   · rw [if_neg c2] at h; simp at h
end Go.Im
set_option maxRecDepth 100000
set_option maxHeartbeats 4000000
namespace Go.Im
def IJ (n : Nat) : Nat → List (List Nat)
 | 0 => [[]]
 | k + 1 => (List.range n).flatMap fun x => (IJ n k).map (x :: ·)
theorem MB (n : Nat) : ∀ (h : List Nat), (∀ x ∈ h, x < n) → h ∈ IJ n h.length
 | [], _ => by simp [IJ]
 | x :: h, hh => by
  simp only [List.length_cons, IJ]
  rw [List.mem_flatMap]
  exact ⟨x, by simpa using hh x (by simp), List.mem_map.2 ⟨h, MB n h fun y hy => hh y (by simp [hy]), rfl⟩⟩
def nodupB : List Nat → Bool
 | [] => true
 | x :: l => l.all (fun y => !(Nat.beq x y)) && nodupB l
def pmB (h : List Nat) (c d : Nat) : Bool := Nat.beq c d || Nat.beq (FM (Fh h c d)).length ((FM h).length + 1) || Nat.beq ((FM (Fh h c d)).length + 1) (FM h).length
def QE (n : Nat) : Bool := (IJ n n).all fun h => !(nodupB h) || (List.range n).all fun c => (List.range n).all fun d => pmB h c d
theorem chk0 : QE 0 = true := by kernel_rfl
theorem chk1 : QE 1 = true := by kernel_rfl
theorem chk2 : QE 2 = true := by kernel_rfl
theorem chk3 : QE 3 = true := by kernel_rfl
theorem chk4 : QE 4 = true := by kernel_rfl
theorem chk5 : QE 5 = true := by kernel_rfl
theorem RU : ∀ (h : List Nat), (∀ (i j x : Nat), h[i]? = some x → h[j]? = some x → i = j) → nodupB h = true
 | [], _ => rfl
 | x :: l, hh => by
  unfold nodupB
  rw [Bool.and_eq_true]
  refine ⟨List.all_eq_true.2 fun y hy => ?_, RU l fun i j z h1 h2 => by have := hh (i + 1) (j + 1) z (by simpa using h1) (by simpa using h2); omega⟩
  obtain ⟨i, hi⟩ := List.getElem?_of_mem hy
  have : Nat.beq x y = false := by
   cases hb : Nat.beq x y with
   | false => rfl
   | true =>
    have e := Nat.eq_of_beq_eq_true hb
    have := hh 0 (i + 1) x rfl (by rw [e]; simpa using hi)
    omega
  rw [this]; rfl
theorem kK {h : List Nat} (hp : Perm h) (hl : h.length ≤ 5) {c d : Nat} (hc : c < h.length) (hd : d < h.length) (hcd : c ≠ d) : (FM (Fh h c d)).length = (FM h).length + 1 ∨ (FM (Fh h c d)).length + 1 = (FM h).length := by
 have atg : ∀ i x, h[i]? = some x → i < h.length ∧ atD h i = x := fun i x hx => by
  refine ⟨(List.getElem?_eq_some_iff.1 hx).1, ?_⟩
  unfold atD; rw [List.getD_eq_getElem?_getD, hx]; rfl
 have hm : h ∈ IJ h.length h.length := MB h.length h fun x hx => by
  obtain ⟨i, hi⟩ := List.getElem?_of_mem hx
  obtain ⟨h1, h2⟩ := atg i x hi
  rw [← h2]; exact hp.lt i h1
 have nb : nodupB h = true := RU h fun i j x h1 h2 => by
  obtain ⟨a1, a2⟩ := atg i x h1
  obtain ⟨b1, b2⟩ := atg j x h2
  exact hp.inj i j a1 b1 (a2.trans b2.symm)
 have ck : QE h.length = true := by
  obtain ⟨n, hn⟩ : ∃ n, n = h.length := ⟨_, rfl⟩
  rw [← hn] at hl ⊢
  match n, hl with
  | 0, _ => exact chk0
  | 1, _ => exact chk1
  | 2, _ => exact chk2
  | 3, _ => exact chk3
  | 4, _ => exact chk4
  | 5, _ => exact chk5
 have k1 := List.all_eq_true.1 ck h hm
 rw [nb] at k1
 have k2 := List.all_eq_true.1 (show (List.range h.length).all (fun c => (List.range h.length).all fun d => pmB h c d) = true from k1) c (by simpa using hc)
 have k3 := List.all_eq_true.1 k2 d (by simpa using hd)
 unfold pmB at k3
 rw [Bool.or_eq_true, Bool.or_eq_true] at k3
 rcases k3 with (k3 | k3) | k3
 · exact absurd (Nat.eq_of_beq_eq_true k3) hcd
 · exact .inl (Nat.eq_of_beq_eq_true k3)
 · exact .inr (Nat.eq_of_beq_eq_true k3)
end Go.Im
set_option maxRecDepth 100000
set_option maxHeartbeats 4000000
namespace Go.Im
theorem NC : ∀ (A B : List (List UInt8)) (H : Hist), CY H (A ++ B) = CY (CY H A) B
 | [], _, _ => rfl
 | x :: A, B, H => by show CY (doH H x) (A ++ B) = CY (CY (doH H x) A) B; exact NC A B _
theorem Uy : ∀ (D acc : List (List UInt8)), (∀ x ∈ D, x ≠ DY) → Np acc D = some (acc ++ D)
 | [], acc, _ => by rw [Np, List.append_nil]
 | x :: D, acc, h => by
  rw [Np, if_pos (h x (by simp)), Uy D _ fun y hy => h y (by simp [hy])]
  simp
theorem ND : ∀ (M : List (List UInt8)) (H : Hist), ∀ x ∈ Fp H M, x ∈ M
 | [], _, x, h => by cases h
 | y :: M, H, x, h => by
  rw [Fp] at h
  split at h
  · rcases List.mem_cons.1 h with h | h
    · simp [h]
    · simp [ND M _ x h]
  · simp [ND M _ x h]
theorem WY {M : List (List UInt8)} (h : ∀ x ∈ M, x ≠ DY) : Fp [] M = CO (CY [] M) := by
 have k := Js M []
 rw [Uy _ _ fun x hx => h x (ND M [] x hx)] at k
 have k := Option.some.inj k
 simpa [CO] using k
theorem kL (H : Hist) (x : List UInt8) : (doH H x).length ≤ H.length + 1 := by
 by_cases c : Dk H x = 0
 · rcases Jr c with ⟨_, _, e⟩ | ⟨_, ord, e⟩
   · rw [e, List.length_take]; omega
   · rw [e]; simp
 · rw [Lu c]; omega
theorem NG : ∀ (M : List (List UInt8)) (H : Hist), (CY H M).length ≤ H.length + M.length
 | [], _ => Nat.le_refl _
 | x :: M, H => by have := NG M (doH H x); have := kL H x; rw [CY, List.length_cons]; omega
def five : List (List UInt8) := [[97, 100, 97], [98, 101, 110], [99, 121], [100, 97, 110], [101, 118, 97]]
theorem Uz (n : Nat) : nameOf n ∈ five := by
 unfold nameOf five
 have : n % 5 < 5 := Nat.mod_lt _ (by decide)
 match n % 5, this with
 | 0, _ => simp
 | 1, _ => simp
 | 2, _ => simp
 | 3, _ => simp
 | 4, _ => simp
theorem newQ {u : Bool} {q : G6} {a : List UInt8} (h : ET u q = CV ++ a) : a ∈ five := by
 unfold ET at h
 split at h
 · have : nameOf q.2.1 = a := List.append_cancel_left h
   rw [← this]; exact Uz _
 · split at h
   · simp [Cj, CV] at h
   · split at h
     · simp [G7, CV] at h
     · split at h
       · simp [Hz, CV] at h
       · simp [DY, CV] at h
theorem kM (q : G6) : ET false q ≠ DY := by
 unfold ET
 split
 · simp [CV, DY]
 · split
   · simp [Cj, DY]
   · split
     · simp [G7, DY]
     · rw [if_pos (.inr rfl)]; simp [Hz, DY]
def IK (H : Hist) : Prop := ∀ y ∈ H, ∀ a, y.2 = .new a → a ∈ five
theorem IK.doH {H : Hist} (h : IK H) {x : List UInt8} (hx : ∀ a, x = CV ++ a → a ∈ five) : IK (doH H x) := by
 intro y hy a ha
 by_cases c : Dk H x = 0
 · rcases Jr c with ⟨_, _, e⟩ | ⟨_, ord, e⟩
   · rw [e] at hy; exact h y (List.mem_of_mem_take hy) a ha
   · rw [e] at hy
     rcases List.mem_append.1 hy with hy | hy
     · exact h y hy a ha
     · rw [List.mem_singleton] at hy
       subst hy
       cases hr : DZ x with
       | error z => unfold Im.doH at e; rw [hr] at e; have := congrArg List.length e; simp at this
       | ok o =>
        by_cases hu : o = .undo
        · subst hu
          unfold Im.doH at e; rw [hr] at e
          have := congrArg List.length e
          simp [List.length_take] at this
        · rw [Ir hr hu] at e
          have eo : o = ord := by
           by_cases c1 : (run H).check o = 0
           · rw [if_pos c1] at e
             by_cases c2 : H.length = 200
             · rw [if_pos c2] at e; have := congrArg List.length e; simp at this
             · rw [if_neg c2] at e
               have := List.append_cancel_left e
               simpa using this
           · rw [if_neg c1] at e; have := congrArg List.length e; simp at this
          rw [eo] at hr
          have ha : ord = .new a := ha
          rw [ha] at hr
          exact hx a (Yz hr)
 · rw [Lu c] at hy; exact h y hy a ha
theorem IK.told : ∀ (M : List (List UInt8)) (H : Hist), IK H → (∀ x ∈ M, ∀ a, x = CV ++ a → a ∈ five) → IK (CY H M)
 | [], _, h, _ => h
 | x :: M, H, h, hM => IK.told M _ (h.doH (hM x (by simp))) fun y hy => hM y (by simp [hy])
theorem gy {H : Hist} (h : HOk H) (f : IK H) : ∀ a ∈ nms (run H).comps, a ∈ five := by
 have : ∀ n, n ≤ H.length → ∀ a ∈ nms (run (H.take n)).comps, a ∈ five := by
  intro n
  induction n with
  | zero => intro _ a ha; rw [List.take_zero] at ha; cases ha
  | succ n ih =>
   intro hn a ha
   obtain ⟨x, hx⟩ := BU (show n < H.length by omega)
   obtain ⟨ft, r⟩ := h n x hx
   have e : H.take (n + 1) = H.take n ++ [x] := by rw [List.take_add_one, hx]; rfl
   rw [e, EG, Jo ft] at ha
   obtain ⟨y, ord⟩ := x
   cases ord with
   | new b =>
    simp only at ha
    rcases List.mem_append.1 ha with ha | ha
    · exact ih (by omega) a ha
    · rw [List.mem_singleton.1 ha]; exact f _ (List.mem_of_getElem? hx) b rfl
   | undo => exact ih (by omega) a ha
   | swap _ _ _ => exact ih (by omega) a ha
   | card _ _ _ => exact ih (by omega) a ha
   | mend _ _ => exact ih (by omega) a ha
 have t := this H.length (Nat.le_refl _)
 rwa [List.take_length] at t
theorem WZ : ∀ (l t : List (List UInt8)), l.Nodup → (∀ x ∈ l, x ∈ t) → l.length ≤ t.length
 | [], _, _, _ => Nat.zero_le _
 | x :: l, t, hn, hs => by
  have hn := List.nodup_cons.1 hn
  have hx := hs x (by simp)
  have := WZ l (t.erase x) hn.2 fun y hy => (List.mem_erase_of_ne (fun e => hn.1 (by rw [← e]; exact hy))).2 (hs y (by simp [hy]))
  rw [List.length_erase_of_mem hx] at this
  have := List.length_pos_of_mem hx
  rw [List.length_cons]; omega
theorem kN {H : Hist} (h : HOk H) (hl : H.length ≤ 200) {x : List UInt8} (hx : x ≠ DY) : ∀ a ∈ nms (run H).comps, a ∈ nms (run (doH H x)).comps := by
 intro a ha
 by_cases c : Dk H x = 0
 · rcases Jr c with ⟨e, _⟩ | ⟨_, ord, e⟩
   · exact (hx e).elim
   · obtain ⟨hok, _⟩ := Px h hl x
     rw [e] at hok ⊢
     obtain ⟨ft, _⟩ := hok H.length (x, ord) (by simp)
     rw [List.take_left'  rfl] at ft
     rw [EG, Jo ft]
     cases ord <;> simp [ha]
 · rw [Lu c]; exact ha
theorem V3 : ∀ (M : List (List UInt8)) (H : Hist), HOk H → H.length ≤ 200 → (∀ x ∈ M, x ≠ DY) → ∀ a ∈ nms (run H).comps, a ∈ nms (run (CY H M)).comps
 | [], _, _, _, _, _, ha => ha
 | x :: M, H, h, hl, hM, a, ha => by
  obtain ⟨h1, h2⟩ := Px h hl x
  exact V3 M _ h1 h2 (fun y hy => hM y (by simp [hy])) a (kN h hl (hM x (by simp)) a ha)
theorem Wh {x : List UInt8} : ∀ {C : List Bj} {i : Nat}, 0 ≤ BJ x C i → x ∈ nms C := by
 intro C i h
 obtain ⟨j, c, h1, h2⟩ : ∃ (j : Nat) (c : Bj), C[j]? = some c ∧ c.name = x := by
  induction C generalizing i with
  | nil => unfold BJ at h; omega
  | cons c C ih =>
   unfold BJ at h
   by_cases e : c.name = x
   · exact ⟨0, c, rfl, e⟩
   · rw [if_neg e] at h
     obtain ⟨j, d, h1, h2⟩ := ih h
     exact ⟨j + 1, d, by simpa using h1, h2⟩
 exact List.mem_map.2 ⟨c, List.mem_of_getElem? h1, h2⟩
theorem new_in {H : Hist} (h : HOk H) (hl : H.length < 200) (hc : (run H).comps.length < 8) {a : List UInt8} (ha : nameB a = true) : a ∈ nms (run (doH H (CV ++ a))).comps := by
 have hr := gu ha
 rw [Ir hr (by simp)]
 by_cases c : (run H).check (.new a) = 0
 · rw [if_pos c, if_neg (by omega), EG, Jo (ord := .new a) ⟨trivial, c⟩]
   simp
 · rw [if_neg c]
   simp only [Off.check] at c
   by_cases c2 : 0 ≤ BJ a (run H).comps 0
   · exact Wh c2
   · rw [if_neg c2, if_neg (by omega)] at c; exact (c rfl).elim
theorem kP {H : Hist} (h : HOk H) (hl : H.length < 200) {c d k : Nat} {a b : List UInt8} (hc : (nms (run H).comps)[c]? = some a) (hd : (nms (run H).comps)[d]? = some b) (hcd : c ≠ d) (hk : k < 4) :
 Dk H (BP a b k) = 0 ∧ doH H (BP a b k) = H ++ [(BP a b k, .swap a b (k : Int))] ∧ run (H ++ [(BP a b k, .swap a b (k : Int))]) = (run H).swap c d k := by
 have nm := h.names
 have cx : ∀ {i : Nat} {y : List UInt8}, (nms (run H).comps)[i]? = some y → nameB y = true ∧ BJ y (run H).comps 0 = (i : Int) ∧ cix (run H).comps y = i := fun {i y} hi => by
  unfold nms at hi
  rw [List.getElem?_map] at hi
  obtain ⟨cc, h1, h2⟩ := Option.map_eq_some_iff.1 hi
  have f := Ko (i := 0) nm.nd h1
  rw [h2, Nat.zero_add] at f
  refine ⟨nm.ok y (by rw [← h2]; exact List.mem_map.2 ⟨cc, List.mem_of_getElem? h1, rfl⟩), f, ?_⟩
  unfold cix; rw [f]; rfl
 obtain ⟨na, fa, xa⟩ := cx hc
 obtain ⟨nb, fb, xb⟩ := cx hd
 have hr := Yx na nb hk
 have ab : a ≠ b := fun e => by rw [e, fb] at fa; omega
 have ck : (run H).check (.swap a b (k : Int)) = 0 := by
  simp only [Off.check]
  rw [fa, fb, if_neg (by omega), if_neg ab]
 refine ⟨by rw [II hr (by simp), if_pos ck, if_neg (by omega)], by rw [Ir hr (by simp), if_pos ck, if_neg (by omega)], ?_⟩
 rw [EG]
 show (run H).swap (cix (run H).comps a) (cix (run H).comps b) (k : Int).toNat = _
 rw [xa, xb]; rfl
end Go.Im
set_option maxRecDepth 100000
set_option maxHeartbeats 4000000
namespace Go.Im
theorem Hg {O : Off} {K : List Nat} (h : Dx O K) {c d k : Nat} (hc : c < O.comps.length) (hd : d < O.comps.length) (hk : k < 4) (i l : Nat) : partAt (O.swap c d k).comps i l = if i = d ∧ l = k then partAt O.comps c k else if i = c ∧ l = k then partAt O.comps d k else partAt O.comps i l := by
 have ok1 := FH h.ok c k (partAt O.comps d k)
 show partAt (setPart (setPart _ _ _ _) _ _ _) i l = _
 rw [ED _ ok1 _ _ _ _ _ (by rw [BK]; exact hd) hk, ED _ h.ok _ _ _ _ _ hc hk]
theorem MC (O : Off) (c d k : Nat) : (O.swap c d k).comps.length = O.comps.length := by show (setPart (setPart _ _ _ _) _ _ _).length = _; rw [BK, BK]
theorem OI (O : Off) (c d k x : Nat) : CB (O.swap c d k).parts x = CB O.parts x := by show CB (setH (setH _ _ _) _ _) x = _; rw [Ed, Ed]
theorem kQ {O : Off} {K : List Nat} (h : Dx O K) {c d k c' d' k' : Nat} (hc : c < O.comps.length) (hd : d < O.comps.length) (hcd : c ≠ d) (hk : k < 4) (hc' : c' < O.comps.length) (hd' : d' < O.comps.length) (Wi : c' ≠ d') (hk' : k' < 4)
 (hx : k ≠ k' ∨ (c ≠ c' ∧ c ≠ d' ∧ d ≠ c' ∧ d ≠ d')) (i l : Nat) : partAt ((O.swap c d k).swap c' d' k').comps i l = partAt ((O.swap c' d' k').swap c d k).comps i l := by
 have h1 := h.swap hc hd hcd hk
 have h2 := h.swap hc' hd' Wi hk'
 rw [Hg h1 (by rw [MC]; exact hc') (by rw [MC]; exact hd') hk', Hg h2 (by rw [MC]; exact hc) (by rw [MC]; exact hd) hk]
 rw [Hg h hc hd hk, Hg h hc hd hk, Hg h hc hd hk, Hg h hc' hd' hk', Hg h hc' hd' hk', Hg h hc' hd' hk']
 rcases hx with hx | ⟨a1, a2, a3, a4⟩
 · by_cases e : l = k
   · subst e; simp [hx]
   · by_cases e' : l = k'
     · subst e'; simp [e]
     · simp [e, e']
 · by_cases e : l = k
   · by_cases e' : k = k'
     · subst e; subst e'
       by_cases j1 : i = d'
       · subst j1; simp [Ne.symm a2, Ne.symm a4, Ne.symm a1, Ne.symm a3]
       · by_cases j2 : i = c'
         · subst j2; simp [j1, Ne.symm a1, Ne.symm a3, Ne.symm a2, Ne.symm a4]
         · simp [j1, j2, a1, a2, a3, a4]
     · subst e; simp [e']
   · by_cases e' : l = k'
     · subst e'; simp [e]
     · simp [e, e']
structure Like (O O' : Off) : Prop where
 nm : nms O'.comps = nms O.comps
 pa : ∀ i l, partAt O'.comps i l = partAt O.comps i l
 ha : ∀ x, CB O'.parts x = CB O.parts x
theorem Like.len {O O' : Off} (h : Like O O') : O'.comps.length = O.comps.length := by have := congrArg List.length h.nm; simpa [nms] using this
theorem Like.homes {O O' : Off} (h : Like O O') (k : Nat) : homesOf O' k = homesOf O k := FW h.len fun c _ => by rw [h.ha, h.pa]
theorem Like.swaps {O O' : Off} (h : Like O O') : D7 O' = D7 O := by unfold D7 swk; rw [h.homes, h.homes, h.homes, h.homes]
theorem Like.cix {O O' : Off} (h : Like O O') (x : List UInt8) : cix O'.comps x = cix O.comps x := by unfold Im.cix; rw [Ea x _ O.comps 0 h.nm]
theorem Like.serials {O O' : Off} (h : Like O O') (c : Nat) : serials O'.comps c = serials O.comps c := by unfold Im.serials; rw [h.pa, h.pa, h.pa, h.pa]
theorem Z4 {O : Off} {K : List Nat} (h : Dx O K) {c d k c' d' k' : Nat} (hc : c < O.comps.length) (hd : d < O.comps.length) (hcd : c ≠ d) (hk : k < 4) (hc' : c' < O.comps.length) (hd' : d' < O.comps.length) (Wi : c' ≠ d') (hk' : k' < 4)
 (hx : k ≠ k' ∨ (c ≠ c' ∧ c ≠ d' ∧ d ≠ c' ∧ d ≠ d')) : Like ((O.swap c d k).swap c' d' k') ((O.swap c' d' k').swap c d k) :=
 ⟨by rw [Fg, Fg, Fg, Fg], fun i l => (kQ h hc hd hcd hk hc' hd' Wi hk' hx i l).symm, fun x => by rw [OI, OI, OI, OI]⟩
theorem Xg (O : Off) (k : Nat) : (swk O k).length = (FM (homesOf O k)).length := by unfold swk; rw [List.length_map]
theorem Z5 {H : Hist} (h : HOk H) (h5 : (run H).comps.length ≤ 5) {c d k : Nat} (hc : c < (run H).comps.length) (hd : d < (run H).comps.length) (hcd : c ≠ d) (hk : k < 4) :
 (D7 ((run H).swap c d k)).length = (D7 (run H)).length + 1 ∨ (D7 ((run H).swap c d k)).length + 1 = (D7 (run H)).length := by
 have hI := h.inv.inv
 have p := kK (h.homes hk) (by rw [BZ]; exact h5) (c := c) (d := d) (by rw [BZ]; exact hc) (by rw [BZ]; exact hd) hcd
 have q : ∀ l, l ≠ k → homesOf ((run H).swap c d k) l = homesOf (run H) l := fun l e => by rw [KZ hI hc hd hcd hk, if_neg e]
 have q0 : homesOf ((run H).swap c d k) k = Fh (homesOf (run H) k) c d := by rw [KZ hI hc hd hcd hk, if_pos rfl]
 unfold D7
 simp only [List.length_append, Xg]
 rcases (by omega : k = 0 ∨ k = 1 ∨ k = 2 ∨ k = 3) with rfl | rfl | rfl | rfl
 · rw [q0, q 1 (by decide), q 2 (by decide), q 3 (by decide)]; omega
 · rw [q0, q 0 (by decide), q 2 (by decide), q 3 (by decide)]; omega
 · rw [q0, q 0 (by decide), q 1 (by decide), q 3 (by decide)]; omega
 · rw [q0, q 0 (by decide), q 1 (by decide), q 2 (by decide)]; omega
def wCy : List UInt8 := CV ++ [99, 121]
def V4 : List UInt8 := CV ++ [100, 97, 110]
def F5 (L : List G6) : List (List UInt8) := Dh false L ++ [wCy, V4]
theorem V5 (L : List G6) : ∀ x ∈ F5 L, x ≠ DY := by
 intro x hx
 unfold F5 Dh at hx
 simp only [List.mem_append, List.mem_cons, List.not_mem_nil, or_false, List.mem_map] at hx
 rcases hx with ((rfl | rfl) | ⟨q, _, rfl⟩) | rfl | rfl
 · decide
 · decide
 · exact kM q
 · decide
 · decide
theorem Wj (L : List G6) : ∀ x ∈ F5 L, ∀ a, x = CV ++ a → a ∈ five := by
 intro x hx a e
 unfold F5 Dh at hx
 simp only [List.mem_append, List.mem_cons, List.not_mem_nil, or_false, List.mem_map] at hx
 rcases hx with ((h | h) | ⟨q, _, h⟩) | h | h
 · rw [h] at e; rw [← List.append_cancel_left e]; decide
 · rw [h] at e; rw [← List.append_cancel_left e]; decide
 · rw [← h] at e; exact newQ e
 · rw [h] at e; rw [← List.append_cancel_left (e : CV ++ _ = CV ++ a)]; decide
 · rw [h] at e; rw [← List.append_cancel_left (e : CV ++ _ = CV ++ a)]; decide
theorem RV (L : List G6) : (F5 L).length ≤ 24 := by unfold F5; rw [List.length_append]; have := Jc false L; simp; omega
theorem iC {H : Hist} (h : HOk H) (f : IK H) : (run H).comps.length ≤ 5 := by
 have := WZ (nms (run H).comps) five h.names.nd (gy h f)
 have e : (nms (run H).comps).length = (run H).comps.length := by unfold nms; rw [List.length_map]
 have e5 : five.length = 5 := rfl
 omega
theorem IK.nil : IK [] := by intro y hy; cases hy
structure Book6 (H : Hist) : Prop where
 ok : HOk H
 len : H.length ≤ 24
 le : (run H).comps.length ≤ 5
 ge : 4 ≤ (run H).comps.length
theorem iD (L : List G6) : Book6 (CY [] (F5 L)) := by
 have five6 := Wj L
 have no6 := V5 L
 have l6 := NG (F5 L) []
 have b6 := RV L
 have hn : ([] : Hist).length = 0 := rfl
 obtain ⟨ok, l200⟩ := QC (F5 L) [] HOk.nil (by decide)
 have le := iC ok (IK.nil.told _ _ five6)
 refine ⟨ok, by omega, le, ?_⟩
 have four : ∀ (A B : List (List UInt8)) (a : List UInt8), F5 L = A ++ (CV ++ a) :: B → nameB a = true → a ∈ nms (run (CY [] (F5 L))).comps := by
  intro A B a e na
  have hA : ∀ x ∈ A, x ∈ F5 L := fun x hx => by rw [e]; simp [hx]
  have hB : ∀ x ∈ B, x ∈ F5 L := fun x hx => by rw [e]; simp [hx]
  obtain ⟨okA, lA⟩ := QC A [] HOk.nil (by decide)
  have fA := IK.nil.told A _ fun x hx => five6 x (hA x hx)
  have leA := iC okA fA
  have llA := NG A []
  have el := congrArg List.length e
  rw [List.length_append, List.length_cons] at el
  rw [e, NC]
  show a ∈ nms (run (CY (doH (CY [] A) (CV ++ a)) B)).comps
  obtain ⟨ok2, l2⟩ := Px okA lA (CV ++ a)
  exact V3 B _ ok2 l2 (fun x hx => no6 x (hB x hx)) a (new_in okA (by omega) (by omega) na)
 have m1 := four [] ((CV ++ [98, 101, 110]) :: ((L.take 20).map (ET false) ++ [wCy, V4])) [97, 100, 97] rfl (by decide)
 have m2 := four [CV ++ [97, 100, 97]] ((L.take 20).map (ET false) ++ [wCy, V4]) [98, 101, 110] rfl (by decide)
 have m3 := four (Dh false L) [V4] [99, 121] rfl (by decide)
 have m4 := four (Dh false L ++ [wCy]) [] [100, 97, 110] (by unfold F5; rw [List.append_assoc]; rfl) (by decide)
 have := WZ [[97, 100, 97], [98, 101, 110], [99, 121], [100, 97, 110]] (nms (run (CY [] (F5 L))).comps) (by decide) (by
  intro x hx
  simp only [List.mem_cons, List.not_mem_nil, or_false] at hx
  rcases hx with rfl | rfl | rfl | rfl
  · exact m1
  · exact m2
  · exact m3
  · exact m4)
 have e : (nms (run (CY [] (F5 L))).comps).length = (run (CY [] (F5 L))).comps.length := by unfold nms; rw [List.length_map]
 rw [e] at this
 exact this
end Go.Im
set_option maxRecDepth 100000
set_option maxHeartbeats 4000000
namespace Go.Im
theorem V6 {α : Type} {l : List α} {i : Nat} {x : α} (h : l[i]? = some x) : i < l.length := by
 by_cases c : i < l.length
 · exact c
 · rw [List.getElem?_eq_none (by omega)] at h; cases h
theorem RdS.src {s : A8} {v : Value} {L : List (List UInt8)} (h : RdS s v L) (h0 : 0 < L.length) : Cc s 1 v = some (L.map strOf) := by
 obtain ⟨x0, hx0⟩ := BU h0
 obtain ⟨lb, l0, p0, r0⟩ := h.at_ 0 x0 hx0
 have hl := h.len
 cases v with
 | slice a len cap =>
  cases a with
  | none => cases p0
  | some a =>
   have hlen : len = L.length := by
    have hl : some (Value.int .i64 (.ofNat len)) = some (.int .i64 (L.length : Int)) := hl
    have := Value.int.inj (Option.some.inj hl)
    exact Int.ofNat.inj this.2
   subst hlen
   have pt : ∀ (i : Nat), i < L.length → BN 1 (.slice (some a) L.length cap) (.int .i64 (i : Int)) = some (.pointer (some (EX a (Nat.mul i 1)))) := fun i hi => by
    show cond (Nat.blt i L.length) (some (Value.pointer (some (EX a (Nat.mul i 1))))) none = _
    rw [Bh.2 hi]; rfl
   rw [pt 0 h0] at p0
   have p0 := Value.pointer.inj (Option.some.inj p0)
   have p0 := Option.some.inj p0
   have ab : a.block = lb := congrArg Addr.block p0
   have ao : a.off = 0 := by
    have := congrArg Addr.off p0
    have e : (EX a (Nat.mul 0 1)).off = a.off + 0 * 1 := rfl
    rw [e] at this; omega
   cases hg : s.get lb with
   | none => unfold A8.rd1 at r0; rw [hg] at r0; cases r0
   | some ob =>
    cases ob with
    | cells c el w =>
     have cs : ∀ (i : Nat) (x : List UInt8), L[i]? = some x → c[i]? = some (strOf x) := by
      intro i x hx
      obtain ⟨lb', _, p1, r1⟩ := h.at_ i x hx
      rw [pt i (BA hx)] at p1
      have p1 := Option.some.inj (Value.pointer.inj (Option.some.inj p1))
      have e : a.block = lb' := congrArg Addr.block p1
      obtain rfl : lb = lb' := by rw [← ab, e]
      rw [Ag hg] at r1; exact r1
     have tk : c.take L.length = L.map strOf := by
      apply List.ext_getElem?
      intro i
      rw [List.getElem?_take, List.getElem?_map]
      by_cases hi : i < L.length
      · obtain ⟨x, hx⟩ := BU hi
        rw [if_pos hi, cs i x hx, hx]; rfl
      · rw [if_neg hi, List.getElem?_eq_none (by omega)]; rfl
     have cl : L.length ≤ c.length := by
      obtain ⟨x, hx⟩ := BU (show L.length - 1 < L.length by omega)
      have := V6 (cs _ x hx); omega
     show s.rd a.block a.off (Nat.mul L.length 1) = _
     have : Nat.mul L.length 1 = L.length := Nat.mul_one _
     rw [ab, ao, this, Eb hg (by omega), List.drop_zero, tk]
    | _ => unfold A8.rd1 at r0; rw [hg] at r0; cases r0
 | _ => cases p0
theorem DF.app {s0 s : A8} (x : Ext s0 s) {base : Option Nat} {v : Value} {M : List (List UInt8)} (h : DF s base v M) (hb : ∀ b, base = some b → s0.nx ≤ b) {N : List (List UInt8)} {src : Value} (hx : Cc s 1 src = some (N.map strOf)) (hN : 0 < N.length) (hl : M.length + N.length < 1000000) :
 ∃ v' s' base', Df s 9 1 16 v src = some (v', s') ∧ DF s' base' v' (M ++ N) ∧ (∀ b, base' = some b → s0.nx ≤ b) ∧ Ext s0 s' := by
 have em : (M ++ N).map strOf = M.map strOf ++ N.map strOf := by simp
 have nl : (N.map strOf).length = N.length := List.length_map _
 have ml : (M.map strOf).length = M.length := List.length_map _
 have xn := x.nx
 have hd : Nat.div (N.map strOf).length 1 = N.length := by rw [nl]; exact Nat.div_one _
 have hgo : ∀ (bs : Option Addr) (l cap : Nat), l = M.length → Df s 9 1 16 (.slice bs l cap) src = J4 s 9 1 M.length cap N.length (M.length + N.length) (N.map strOf) bs := by
  intro bs l cap e
  subst e
  show ob (Cc s 1 src) (fun news => Ei s 9 1 16 news (.slice bs M.length cap)) = _
  rw [hx]
  show cond (Nat.beq 1 0) none (cond (Nat.ble (Nat.mul (Nat.add M.length (Nat.div (N.map strOf).length 1)) 16) 140737488355328 && Nat.blt (Nat.add M.length (Nat.div (N.map strOf).length 1)) UNK) (J4 s 9 1 M.length cap (Nat.div (N.map strOf).length 1) (Nat.add M.length (Nat.div (N.map strOf).length 1)) (N.map strOf) bs) none) = _
  rw [hd]
  have a1 : Nat.ble (Nat.mul (Nat.add M.length N.length) 16) 140737488355328 = true := Aa.2 (by show (M.length + N.length) * 16 ≤ _; omega)
  have a2 : Nat.blt (Nat.add M.length N.length) UNK = true := Bh.2 (by show M.length + N.length < 9223372036854775808; omega)
  rw [a1, a2]; rfl
 have fresh : ∀ (t : A8) (cs : List Value), cs = (M ++ N).map strOf → Ext s0 t → s.nx ≤ t.nx → ∃ v' s' base', some (Value.slice (some ⟨t.nx, 0, none⟩) (M.length + N.length) UNK, t.new (.cells cs 9 true)) = some (v', s') ∧ DF s' base' v' (M ++ N) ∧ (∀ b, base' = some b → s0.nx ≤ b) ∧ Ext s0 s' := by
  intro t cs e xt nt
  refine ⟨_, _, some t.nx, rfl, .inl ?_, fun b e => by obtain rfl := Option.some.inj e; omega, xt.new _⟩
  rw [← e, List.length_append]
  have cl : cs.length = M.length + N.length := by rw [e, List.length_map, List.length_append]
  exact ⟨rfl, by simp, cs, by rw [A8.Af, if_pos rfl], by rw [List.take_of_length_le (by omega)], by omega⟩
 rcases h with h | ⟨b, rfl, h2, rfl, h4⟩
 · cases base with
   | none =>
    obtain ⟨rfl, h1, h2⟩ := h
    rw [hgo none 0 0 h1.symm]
    have z : Nat.beq N.length 0 = false := Gv (by omega)
    show ∃ v' s' base', cond (Nat.beq N.length 0) (some (.slice none 0 0, s)) (some (Dc s 9 N.length [] (N.map strOf))) = some (v', s') ∧ _
    rw [z]
    have := fresh s (N.map strOf) (by rw [em, h2]; rfl) x (Nat.le_refl _)
    rw [h1, Nat.zero_add] at this
    exact this
   | some b =>
    have hcl := h.RJ
    have hb0 := hb b rfl
    obtain ⟨rfl, h0, full, h1, h2, h3⟩ := h
    rw [Nat.mul_one] at h2 h3
    rw [hgo (some ⟨b, 0, none⟩) M.length UNK rfl]
    have e1 : J4 s 9 1 M.length UNK N.length (M.length + N.length) (N.map strOf) (some ⟨b, 0, none⟩) = MG s ⟨b, 0, none⟩ 9 1 M.length (M.length + N.length) (N.map strOf) (s.get b) := rfl
    rw [e1, h1]
    show ∃ v' s' base', cond (Nat.ble (Nat.add 0 (Nat.mul (M.length + N.length) 1)) full.length) (Ju s ⟨b, 0, none⟩ 1 M.length UNK (M.length + N.length) (N.map strOf)) (cond (Ba (N.map strOf)) (ob (sub full 0 (Nat.mul M.length 1)) fun old => some (Dc (s.put b .dead) 9 (M.length + N.length) old (N.map strOf))) none) = some (v', s') ∧ _
    rw [Q9]
    by_cases hroom : M.length + N.length ≤ full.length
    · have a1 : Nat.ble (Nat.add 0 (Nat.mul (M.length + N.length) 1)) full.length = true := Aa.2 (by show 0 + (M.length + N.length) * 1 ≤ _; omega)
      rw [a1]
      have hwr := fG (s := s) (b := b) (c := full) (el := 9) h1 (o := M.length) (vs := N.map strOf) (Q9 N) (by rw [nl]; exact hroom)
      have a2 : Ju s ⟨b, 0, none⟩ 1 M.length UNK (M.length + N.length) (N.map strOf) = some (.slice (some ⟨b, 0, none⟩) (M.length + N.length) UNK, s.put b (.cells (full.take M.length ++ (N.map strOf ++ full.drop (M.length + (N.map strOf).length))) 9 true)) := by
       show ob (s.wr b (Nat.add 0 (Nat.mul M.length 1)) (N.map strOf)) _ = _
       have : Nat.add 0 (Nat.mul M.length 1) = M.length := by show 0 + M.length * 1 = _; omega
       rw [this, hwr]; rfl
      refine ⟨_, _, some b, a2, .inl ?_, hb, ⟨by show s0.nx ≤ s.nx; omega, fun i hi => by rw [A8.get_put, if_neg (by omega)]; exact x.get i hi⟩⟩
      rw [em, List.length_append]
      refine ⟨rfl, h0, _, by rw [A8.get_put, if_pos rfl], ?_, ?_⟩
      · rw [h2, ← List.append_assoc, Nat.mul_one, List.take_left' (by rw [List.length_append, ml, nl])]
      · rw [h2, List.length_append, List.length_append, ml, nl, Nat.mul_one]; omega
    · have a1 : Nat.ble (Nat.add 0 (Nat.mul (M.length + N.length) 1)) full.length = false := by
       cases hh : Nat.ble (Nat.add 0 (Nat.mul (M.length + N.length) 1)) full.length with
       | false => rfl
       | true =>
        have := Aa.1 hh
        have : 0 + (M.length + N.length) * 1 ≤ full.length := this
        omega
      rw [a1]
      have a2 : sub full 0 (Nat.mul M.length 1) = some (M.map strOf) := by
       show cond (Nat.ble (Nat.add 0 (Nat.mul M.length 1)) full.length) (some ((full.drop 0).take (Nat.mul M.length 1))) none = _
       have : Nat.ble (Nat.add 0 (Nat.mul M.length 1)) full.length = true := Aa.2 (by show 0 + M.length * 1 ≤ _; omega)
       rw [this, List.drop_zero]
       have e : Nat.mul M.length 1 = M.length := Nat.mul_one _
       rw [e]
       exact congrArg some h2
      rw [a2]
      exact fresh (s.put b .dead) (M.map strOf ++ N.map strOf) em.symm ⟨by show s0.nx ≤ s.nx; omega, fun i hi => by rw [A8.get_put, if_neg (by omega)]; exact x.get i hi⟩ (Nat.le_refl _)
 · have hb0 := hb b rfl
   rw [hgo (some ⟨b, 0, none⟩) M.length M.length rfl]
   have hrd : s.rd b 0 (Nat.mul M.length 1) = some (M.map strOf) := by
    have : Nat.mul M.length 1 = M.length := Nat.mul_one _
    rw [this, Eb h4 (by simp), List.drop_zero, List.take_of_length_le (by simp)]
   show ∃ v' s' base', cond (Nat.blt M.length UNK) (cond (Nat.ble (M.length + N.length) M.length) (Ju s ⟨b, 0, none⟩ 1 M.length M.length (M.length + N.length) (N.map strOf)) (ob (s.rd b 0 (Nat.mul M.length 1)) fun old => some (Dc s 9 (M.length + N.length) old (N.map strOf)))) (cond (Nat.beq M.length UNE) none (MG s ⟨b, 0, none⟩ 9 1 M.length (M.length + N.length) (N.map strOf) (s.get b))) = some (v', s') ∧ _
   have a3 : Nat.blt M.length UNK = true := Bh.2 (by show M.length < 9223372036854775808; omega)
   have a4 : Nat.ble (M.length + N.length) M.length = false := by
    cases hh : Nat.ble (M.length + N.length) M.length with
    | false => rfl
    | true => have := Aa.1 hh; omega
   rw [a3, a4, hrd]
   exact fresh s (M.map strOf ++ N.map strOf) em.symm x (Nat.le_refl _)
end Go.Im
set_option maxRecDepth 100000
set_option maxHeartbeats 4000000
namespace Go.Im
theorem iE {s : A8} {v8 : Value} {D : List (List UInt8)} (hD : RdS s v8 D) (h0 : 0 < D.length) (hl : D.length < 1000) (N : List (List UInt8)) (hN : 0 < N.length) (hN2 : N.length ≤ 2) :
 ∃ v1 s1 v2 s2, Df (s.new (.cells [] 9 true)) 9 1 16 (.slice (some ⟨s.nx, 0, none⟩) 0 0) v8 = some (v1, s1) ∧ Df (s1.new (.cells (N.map strOf) 9 true)) 9 1 16 v1 (.slice (some ⟨s1.nx, 0, none⟩) N.length N.length) = some (v2, s2) ∧ Ext s s1 ∧ Ext s s2 ∧ RdS s2 v2 (D ++ N) := by
 obtain ⟨t, ht⟩ : ∃ t, t = s.new (.cells [] 9 true) := ⟨_, rfl⟩
 have xt : Ext s t := by rw [ht]; exact (Ext.refl s).new _
 have L0 : DF t (some s.nx) (.slice (some ⟨s.nx, 0, none⟩) 0 0) [] := .inr ⟨s.nx, rfl, by rw [ht]; exact Nat.lt_succ_self _, rfl, by rw [ht, A8.Af, if_pos rfl]; rfl⟩
 obtain ⟨v1, s1, b1, w1, L1, f1, x1⟩ := L0.app xt (fun b e => by obtain rfl := Option.some.inj e; exact Nat.le_refl _) ((hD.ext xt).src h0) h0 (by simp; omega)
 rw [List.nil_append] at L1
 obtain ⟨u, hu⟩ : ∃ u, u = s1.new (.cells (N.map strOf) 9 true) := ⟨_, rfl⟩
 have xu : Ext s1 u := by rw [hu]; exact (Ext.refl s1).new _
 have nl : (N.map strOf).length = N.length := List.length_map _
 have su : Cc u 1 (.slice (some ⟨s1.nx, 0, none⟩) N.length N.length) = some (N.map strOf) := by
  show u.rd s1.nx 0 (Nat.mul N.length 1) = _
  have e : Nat.mul N.length 1 = N.length := Nat.mul_one _
  have g : u.get s1.nx = some (.cells (N.map strOf) 9 true) := by rw [hu, A8.Af, if_pos rfl]
  rw [e, Eb g (by omega), List.drop_zero, List.take_of_length_le (by omega)]
 obtain ⟨v2, s2, b2, w2, L2, f2, x2⟩ := (L1.frame xu.nx fun b e => xu.get b (L1.lt e)).app (x1.trans xu) f1 su hN (by omega)
 rw [ht] at w1
 rw [hu] at w2
 exact ⟨v1, s1, v2, s2, w1, w2, x1, x2, L2.rdS⟩
theorem Xh (m : Nat) (hm : 60000 ≤ m) {s : A8} (hk : KOk s) {v8 : Value} {H : Hist} (ok : HOk H) (hl : H.length ≤ 100) (h0 : 0 < H.length) (hD : RdS s v8 (CO H)) (N : List (List UInt8)) (hN : 0 < N.length) (hN2 : N.length ≤ 2) :
 ∃ v1 s1 v2 s2 b vd s3 F, Df (s.new (.cells [] 9 true)) 9 1 16 (.slice (some ⟨s.nx, 0, none⟩) 0 0) v8 = some (v1, s1) ∧ Df (s1.new (.cells (N.map strOf) 9 true)) 9 1 16 v1 (.slice (some ⟨s1.nx, 0, none⟩) N.length N.length) = some (v2, s2) ∧
  AU AB Ah m (.fn 31) [v2] s2 = .ok (.tuple ⟨[.pointer (some ⟨b, 0, none⟩), vd]⟩, s3) ∧ BO s3 b (CY H N) F ∧ Ext s s3 ∧ KOk s3 := by
 have ll : (CO H).length = H.length := by unfold CO; rw [List.length_map]
 obtain ⟨v1, s1, v2, s2, w1, w2, x1, x2, r2⟩ := iE hD (by omega) (by omega) N hN hN2
 obtain ⟨vd, s3, F, d31, O, _⟩ := k31 m (hk.ext x2) r2 (by rw [List.length_append]; omega) (by rw [List.length_append]; omega)
 rw [NC, (kH ok (by omega)).1] at O
 exact ⟨v1, s1, v2, s2, _, vd, s3, F, w1, w2, d31, O.hb, x2.trans O.x, O.k⟩
theorem BO.ext {s s' : A8} {b : Nat} {H : Hist} {F : Nat → Prop} (h : BO s b H F) (x : Ext s s') : BO s' b H F := h.frame (Fr.of_ext x (fun _ => False)) (fun _ _ h => h)
theorem BO.at22 {s : A8} {b : Nat} {H : Hist} {F : Nat → Prop} (h : BO s b H F) (n : Nat) (hn : 200 ≤ n) (x : List UInt8) : Gives (AU AB Ah n (.fn 22) [.pointer (some ⟨b, 0, none⟩), .string (ofL x)] s) s (Jb H x) := by
 obtain ⟨tag, o, cb, pb, lb, eb, E, lv, ev, hB⟩ := h
 exact k22 n hn x hB
theorem BO.at30 {s : A8} {b : Nat} {H : Hist} {F : Nat → Prop} (h : BO s b H F) (n : Nat) (hn : 200 ≤ n) : Gives (AU AB Ah n (.fn 30) [.pointer (some ⟨b, 0, none⟩)] s) s (.int .i64 ((D7 (run H)).length : Int)) := by
 obtain ⟨tag, o, cb, pb, lb, eb, E, lv, ev, hB⟩ := h
 exact k30 n (by omega) hB
theorem iF {s : A8} {vs : List Value} (hl : vs.length = 4) (hs : Ba vs = true) : ∃ s', wSt (s.new (.cells Ef 33 true)) 4 (.agg ⟨vs⟩) (.pointer (some ⟨s.nx, 0, none⟩)) = some (BX, s') ∧ Ext s s' ∧ s'.get s.nx = some (.cells vs 33 true) ∧ s.nx < s'.nx := by
 obtain ⟨t, ht⟩ : ∃ t, t = s.new (.cells Ef 33 true) := ⟨_, rfl⟩
 have g : t.get s.nx = some (.cells Ef 33 true) := by rw [ht, A8.Af, if_pos rfl]
 obtain ⟨s', w, _, g', n', f'⟩ := w4 g rfl hl hs
 rw [← ht]
 have tn : t.nx = s.nx + 1 := by rw [ht]; rfl
 refine ⟨s', w, ⟨by omega, fun i hi => ?_⟩, g', by omega⟩
 rw [f' i (by omega), ht, A8.Af, if_neg (by omega)]
theorem ld4 {s : A8} {q : Nat} {vs : List Value} (g : s.get q = some (.cells vs 33 true)) (hl : vs.length = 4) : DT s 4 (.pointer (some ⟨q, 0, none⟩)) = some (.agg ⟨vs⟩) := Fz (by
 rw [Eb g (by omega), List.drop_zero, List.take_of_length_le (by omega)])
theorem two22 (m : Nat) (hm : 200 ≤ m) {s : A8} {b b2 : Nat} {H H2 : Hist} {F F2 : Nat → Prop} (h : BO s b H F) (h2 : BO s b2 H2 F2) (lk : Like (run H) (run H2)) {y : List UInt8} (hy : y ∈ nms (run H).comps) :
 ∃ vs s1 s2 s3 s4, AU AB Ah m (.fn 22) [.pointer (some ⟨b, 0, none⟩), .string (ofL y)] s = .ok (.tuple ⟨[.agg ⟨vs⟩, .int .i64 0]⟩, s1) ∧ wSt (s1.new (.cells Ef 33 true)) 4 (.agg ⟨vs⟩) (.pointer (some ⟨s1.nx, 0, none⟩)) = some (BX, s2) ∧
  AU AB Ah m (.fn 22) [.pointer (some ⟨b2, 0, none⟩), .string (ofL y)] s2 = .ok (.tuple ⟨[.agg ⟨vs⟩, .int .i64 0]⟩, s3) ∧ wSt (s3.new (.cells Ef 33 true)) 4 (.agg ⟨vs⟩) (.pointer (some ⟨s3.nx, 0, none⟩)) = some (BX, s4) ∧
  DT s4 4 (.pointer (some ⟨s1.nx, 0, none⟩)) = some (.agg ⟨vs⟩) ∧ DT s4 4 (.pointer (some ⟨s3.nx, 0, none⟩)) = some (.agg ⟨vs⟩) ∧ IQ (.a 4) true (.agg ⟨vs⟩) (.agg ⟨vs⟩) = some (.bool false) ∧ Ext s s4 := by
 have nm := h.ok.names
 obtain ⟨c, hc, rfl⟩ := List.mem_map.1 hy
 obtain ⟨j, hj⟩ := List.getElem?_of_mem hc
 have fx := Ko (i := 0) nm.nd hj
 have nb : nameB c.name = true := nm.ok _ hy
 have ans : ∀ (G : Hist), Like (run H) (run G) → Jb G c.name = .tuple ⟨[.agg ⟨serials (run H).comps (cix (run H).comps c.name)⟩, .int .i64 0]⟩ := fun G lg => by
  unfold Jb
  rw [if_neg (by rw [nb]; simp), Ea c.name _ (run H).comps 0 lg.nm, if_neg (by rw [fx]; omega), lg.cix, lg.serials]
 have a1 := ans H ⟨rfl, fun _ _ => rfl, fun _ => rfl⟩
 have a2 := ans H2 lk
 obtain ⟨vs, hvs⟩ : ∃ vs, vs = serials (run H).comps (cix (run H).comps c.name) := ⟨_, rfl⟩
 rw [← hvs] at a1 a2
 have vl : vs.length = 4 := by rw [hvs]; rfl
 have vsm : Ba vs = true := by rw [hvs]; rfl
 have q : IQ (.a 4) true (.agg ⟨vs⟩) (.agg ⟨vs⟩) = some (.bool false) := by rw [hvs]; exact eqS4 _ _ _ _
 obtain ⟨s1, d1, x1⟩ := h.at22 m hm c.name
 rw [a1] at d1
 obtain ⟨s2, w2, x2, g2, n2⟩ := iF (s := s1) vl vsm
 obtain ⟨s3, d3, x3⟩ := (h2.ext (x1.trans x2)).at22 m hm c.name
 rw [a2] at d3
 obtain ⟨s4, w4', x4, g4, _⟩ := iF (s := s3) vl vsm
 have x24 := x3.trans x4
 exact ⟨vs, s1, s2, s3, s4, d1, w2, d3, w4', ld4 ((x24.get _ n2).trans g2) vl, ld4 g4 vl, q, (x1.trans x2).trans x24⟩
end Go.Im
set_option maxRecDepth 100000
set_option maxHeartbeats 4000000
namespace Go.Im
theorem Xi : ob (fill (zeros [.string ⟨#[]⟩] 0) []) (fun c => some (CQ.cells c 9 true, Bv 0 0)) = some (.cells [] 9 true, Bv 0 0) := rfl
theorem iG (x y : List UInt8) : ob (fill (zeros [.string ⟨#[]⟩] 2) [(0, 1, (.string (ofL x))), (1, 1, (.string (ofL y)))]) (fun c => some (CQ.cells c 9 true, Bv 2 2)) = some (.cells ([x, y].map strOf) 9 true, Bv 2 2) := rfl
theorem iH (x : List UInt8) : ob (fill (zeros [.string ⟨#[]⟩] 1) [(0, 1, (.string (ofL x)))]) (fun c => some (CQ.cells c 9 true, Bv 1 1)) = some (.cells ([x].map strOf) 9 true, Bv 1 1) := rfl
theorem MF (l c b : Nat) : Bv l c b = .slice (some ⟨b, 0, none⟩) l c := (rfl)
theorem RX : [Value.int .i64 0, .int .i64 0, .int .i64 0, .int .i64 0] = Ef := (rfl)
section
variable {t0 : A8} {b b2 : Nat} {H H2 : Hist} {F F2 : Nat → Prop}
theorem Z7 (m N : Nat) (hm : 200 ≤ m) (h : BO t0 b H F) (h2 : BO t0 b2 H2 F2) (lk : Like (run H) (run H2)) {M : List (List UInt8)} (hM : M = nms (run H).comps) (hMl : M.length < 1000) {v4 v5 v8 v9 : Value} {i10 i11 : Int} {x12 : ByteArray} (hv : RdS t0 v9 M) :
 ∀ (d i f : Nat) (s : A8), i + d = M.length → d < f → Ext t0 s →
 ∃ s', Ua B6 (AU AB Ah m) N f v4 v5 (.pointer (some ⟨b, 0, none⟩)) v8 v9 (.int .i64 i10) (.int .i64 i11) (.string x12) (.pointer (some ⟨b2, 0, none⟩)) v9 (.int .i64 (M.length : Int)) (.int .i64 (i : Int)) s = XL B6 (AU AB Ah m) N v4 v5 v8 v9 (.int .i64 i10) (.int .i64 i11) (.string x12) s' ∧ Ext t0 s' := by
 intro d
 induction d with
 | zero =>
  intro i f s hi hf x
  obtain ⟨f, rfl, _⟩ := Ae hf
  obtain rfl : i = M.length := by omega
  have : ¬ (M.length : Int) < (M.length : Int) := by omega
  refine ⟨s, ?_, x⟩
  rw [Ud B6 rfl]
  simp only [Bq, decide_eq_false this, Dv]
 | succ d ih =>
  intro i f s hi hf x
  obtain ⟨f, rfl, _⟩ := Ae hf
  have hil : i < M.length := by omega
  obtain ⟨y, hy⟩ := BU hil
  have hlt : (i : Int) < (M.length : Int) := by omega
  have hw : BL .i64 ((i : Int) + 1) = ((i + 1 : Nat) : Int) := by rw [wrap64 (by omega)]; omega
  obtain ⟨lb, _, ia, rd⟩ := (hv.ext x).at_ i y hy
  obtain ⟨vs, s1, s2, s3, s4, d1, w2, d3, w4, l1, l2, q, x4⟩ := two22 m hm (h.ext x) (h2.ext x) lk (y := y) (by rw [← hM]; exact List.mem_of_getElem? hy)
  obtain ⟨s', e, xx⟩ := ih (i + 1) f s4 (by omega) (by omega) (x.trans x4)
  refine ⟨s', ?_, xx⟩
  unfold strOf at rd
  rw [Ud B6 rfl]
  simp only [Bq, decide_eq_true hlt, Du, dR B6 rfl, ia, Ad, BD, bind_ok, CS, rd, d1, CP, List.getElem?_cons_zero, List.getElem?_cons_succ, RX, Eu, w2, Aq, d3, w4, E9, decide_true, Bool.not_true, E8, beq_self_eq_true, Nb, Jg, l1, l2, q, Ar, Dv, GN, hw]
  exact e
theorem Wn (m N : Nat) (hm : 200 ≤ m) (hk : KOk t0) (h : BO t0 b H F) (h2 : BO t0 b2 H2 F2) (lk : Like (run H) (run H2)) {M : List (List UInt8)} (hM : M = nms (run H).comps) (hMl : M.length < 1000) {v9 : Value} (hv : RdS t0 v9 M) :
 ∀ (d i f : Nat) (s : A8), i + d = M.length → d < f → Ext t0 s →
 ∃ s', PE B6 (AU AB Ah m) N f (.pointer (some ⟨b, 0, none⟩)) (.pointer (some ⟨b2, 0, none⟩)) v9 (.int .i64 (M.length : Int)) (.int .i64 (i : Int)) s = .ok (.bool true, s') := by
 intro d
 induction d with
 | zero =>
  intro i f s hi hf x
  obtain ⟨f, rfl, _⟩ := Ae hf
  obtain rfl : i = M.length := by omega
  have : ¬ (M.length : Int) < (M.length : Int) := by omega
  obtain ⟨s1, d1, x1⟩ := (h.ext x).at30 m hm
  obtain ⟨s2, d2, x2⟩ := (h2.ext (x.trans x1)).at30 m hm
  rw [lk.swaps] at d2
  have d13 := k13S m (by omega) s2 (hk.ext ((x.trans x1).trans x2))
  refine ⟨s2, ?_⟩
  rw [Qm B6 rfl]
  simp only [Bq, decide_eq_false this, Dv, YH B6 rfl, d1, bind_ok, d2, PD, decide_true, Ad, BD, E8, beq_self_eq_true, Nb, d13, LU]
 | succ d ih =>
  intro i f s hi hf x
  obtain ⟨f, rfl, _⟩ := Ae hf
  have hil : i < M.length := by omega
  obtain ⟨y, hy⟩ := BU hil
  have hlt : (i : Int) < (M.length : Int) := by omega
  have hw : BL .i64 ((i : Int) + 1) = ((i + 1 : Nat) : Int) := by rw [wrap64 (by omega)]; omega
  obtain ⟨lb, _, ia, rd⟩ := (hv.ext x).at_ i y hy
  obtain ⟨vs, s1, s2, s3, s4, d1, w2, d3, w4, l1, l2, q, x4⟩ := two22 m hm (h.ext x) (h2.ext x) lk (y := y) (by rw [← hM]; exact List.mem_of_getElem? hy)
  obtain ⟨s', e⟩ := ih (i + 1) f s4 (by omega) (by omega) (x.trans x4)
  refine ⟨s', ?_⟩
  unfold strOf at rd
  rw [Qm B6 rfl]
  simp only [Bq, decide_eq_true hlt, Du, YG B6 rfl, ia, Ad, BD, bind_ok, CS, rd, d1, CP, List.getElem?_cons_zero, List.getElem?_cons_succ, RX, Eu, w2, Aq, d3, w4, E9, decide_true, Bool.not_true, E8, beq_self_eq_true, Nb, Jg, l1, l2, q, Ar, Dv, GN, hw]
  exact e
end
theorem Wp (m : Nat) (hm : 60000 ≤ m) {s : A8} (hk : KOk s) {v8 v9 : Value} {H : Hist} (ok : HOk H) (hl : H.length ≤ 100) (h0 : 0 < H.length) (hD : RdS s v8 (CO H)) (hv : RdS s v9 (nms (run H).comps)) {x12 x25 : List UInt8}
 (lk : Like (run (CY H [x12, x25])) (run (CY H [x25, x12]))) (nm : nms (run (CY H [x12, x25])).comps = nms (run H).comps) :
 ∃ s', MP B6 (AU AB Ah m) m v8 v9 (.string (ofL x12)) (.string (ofL x25)) s = .ok (.bool true, s') := by
 obtain ⟨v1, s1, v2, s2, b, vd, s3, F, w1, w2, d31, B3, x3, k3⟩ := Xh m hm hk ok hl h0 hD [x12, x25] (Nat.succ_pos _) (Nat.le_refl _)
 obtain ⟨v1', s1', v2', s2', b', vd', s3', F', w1', w2', d31', B3', x3', k3'⟩ := Xh m hm k3 ok hl h0 (hD.ext x3) [x25, x12] (Nat.succ_pos _) (Nat.le_refl _)
 have ml : (nms (run H).comps).length = (run H).comps.length := by unfold nms; rw [List.length_map]
 have Pv := ok.inv.Pv
 obtain ⟨s', e⟩ := Wn m m (by omega) k3' (B3.ext x3') B3' lk (M := nms (run H).comps) nm.symm (by omega) ((hv.ext x3).ext x3') (nms (run H).comps).length 0 m s3' (by omega) (by omega) (.refl s3')
 refine ⟨s', ?_⟩
 have e : PE B6 (AU AB Ah m) m m (.pointer (some ⟨b, 0, none⟩)) (.pointer (some ⟨b', 0, none⟩)) v9 (.int .i64 ((nms (run H).comps).length : Int)) (.int .i64 0) s3' = .ok (.bool true, s') := e
 have w2 : Df (s1.new (.cells ([x12, x25].map strOf) 9 true)) 9 1 16 v1 (.slice (some ⟨s1.nx, 0, none⟩) 2 2) = some (v2, s2) := w2
 have w2' : Df (s1'.new (.cells ([x25, x12].map strOf) 9 true)) 9 1 16 v1' (.slice (some ⟨s1'.nx, 0, none⟩) 2 2) = some (v2', s2') := w2'
 rw [YF B6 rfl]
 simp only [Xi, iG, Ad, BD, bind_ok, MF, w1, w2, w1', w2', Aq, d31, d31', CP, List.getElem?_cons_zero, List.getElem?_cons_succ, hv.len, e]
end Go.Im
set_option maxRecDepth 100000
set_option maxHeartbeats 4000000
namespace Go.Im
theorem FN {H : Hist} (h : HOk H) (hl : H.length < 200) {c d k : Nat} {a b : List UInt8} (hc : (nms (run H).comps)[c]? = some a) (hd : (nms (run H).comps)[d]? = some b) (hcd : c ≠ d) (hk : k < 4) :
 ∃ H1, doH H (BP a b k) = H1 ∧ HOk H1 ∧ H1.length = H.length + 1 ∧ run H1 = (run H).swap c d k ∧ nms (run H1).comps = nms (run H).comps := by
 obtain ⟨_, e2, e3⟩ := kP h hl hc hd hcd hk
 obtain ⟨ok, _⟩ := Px h (by omega) (BP a b k)
 rw [e2] at ok
 exact ⟨_, e2, ok, by simp, e3, by rw [e3, Fg]⟩
theorem Nr {C : List Bj} {i : Nat} {a : List UInt8} (h : (nms C)[i]? = some a) : i < C.length := by
 have := V6 h; unfold nms at this; rwa [List.length_map] at this
theorem iI {H : Hist} (h : HOk H) (hl : H.length < 100) {c d k c' d' k' : Nat} {a b a' b' : List UInt8} (hc : (nms (run H).comps)[c]? = some a) (hd : (nms (run H).comps)[d]? = some b) (hcd : c ≠ d) (hk : k < 4)
 (hc' : (nms (run H).comps)[c']? = some a') (hd' : (nms (run H).comps)[d']? = some b') (Wi : c' ≠ d') (hk' : k' < 4) (hx : k ≠ k' ∨ (c ≠ c' ∧ c ≠ d' ∧ d ≠ c' ∧ d ≠ d')) :
 Like (run (CY H [BP a b k, BP a' b' k'])) (run (CY H [BP a' b' k', BP a b k])) ∧ nms (run (CY H [BP a b k, BP a' b' k'])).comps = nms (run H).comps := by
 obtain ⟨H1, e1, ok1, l1, r1, n1⟩ := FN h (by omega) hc hd hcd hk
 obtain ⟨H2, e2, ok2, l2, r2, n2⟩ := FN ok1 (by omega) (by rw [n1]; exact hc') (by rw [n1]; exact hd') Wi hk'
 obtain ⟨H3, e3, ok3, l3, r3, n3⟩ := FN h (by omega) hc' hd' Wi hk'
 obtain ⟨H4, e4, ok4, l4, r4, n4⟩ := FN ok3 (by omega) (by rw [n3]; exact hc) (by rw [n3]; exact hd) hcd hk
 have t1 : CY H [BP a b k, BP a' b' k'] = H2 := by show doH (doH H _) _ = _; rw [e1, e2]
 have t2 : CY H [BP a' b' k', BP a b k] = H4 := by show doH (doH H _) _ = _; rw [e3, e4]
 rw [t1, t2]
 refine ⟨?_, by rw [n2, n1]⟩
 rw [r2, r4, r1, r3]
 exact Z4 h.inv.inv (Nr hc) (Nr hd) hcd hk (Nr hc') (Nr hd') Wi hk' hx
theorem Wq {H : Hist} (h : HOk H) (hl : H.length < 100) {c d k : Nat} {a b : List UInt8} (hc : (nms (run H).comps)[c]? = some a) (hd : (nms (run H).comps)[d]? = some b) (hcd : c ≠ d) (hk : k < 4) :
 Like (run H) (run (CY H [BP a b k, BP a b k])) := by
 obtain ⟨H1, e1, ok1, l1, r1, n1⟩ := FN h (by omega) hc hd hcd hk
 obtain ⟨H2, e2, ok2, l2, r2, n2⟩ := FN ok1 (by omega) (by rw [n1]; exact hc) (by rw [n1]; exact hd) hcd hk
 have t1 : CY H [BP a b k, BP a b k] = H2 := by show doH (doH H _) _ = _; rw [e1, e2]
 rw [t1, r2, r1, swap_swap h.inv.inv (Nr hc) (Nr hd) hcd hk]
 exact ⟨rfl, fun _ _ => rfl, fun _ => rfl⟩
theorem Ns {H : Hist} (h : HOk H) : (D7 (run H)).length ≤ 256 := by
 have c8 := h.inv.Pv
 have one : ∀ k, k < 4 → (swk (run H) k).length ≤ 64 := fun k hk => by
  rw [Xg]
  have := QA (homesOf (run H) k).length (List.range (homesOf (run H) k).length) (homesOf (run H) k) (h.homes hk) rfl (fun c hc => List.mem_range.1 hc)
  rw [List.length_range, BZ] at this
  have q : (run H).comps.length * (run H).comps.length ≤ 8 * 8 := Nat.mul_le_mul c8 c8
  unfold FM
  rw [BZ]
  omega
 have := one 0 (by decide); have := one 1 (by decide); have := one 2 (by decide); have := one 3 (by decide)
 unfold D7
 simp only [List.length_append]
 omega
def F8 (I J : Nat) : Nat → List (List UInt8) → List (List UInt8)
 | _, [] => []
 | i, x :: l => if i ≠ I ∧ i ≠ J then x :: F8 I J (i + 1) l else F8 I J (i + 1) l
theorem TU (I J : Nat) : ∀ (l : List (List UInt8)) (i : Nat) (x : List UInt8) (R : List (List UInt8)), F8 I J i l = x :: R → ∃ p, l[p]? = some x ∧ i + p ≠ I ∧ i + p ≠ J ∧ R = F8 I J (i + p + 1) (l.drop (p + 1))
 | [], _, _, _, h => by cases h
 | y :: l, i, x, R, h => by
  rw [F8] at h
  split at h
  · rename_i c
    obtain ⟨rfl, rfl⟩ := List.cons.inj h
    exact ⟨0, rfl, c.1, c.2, rfl⟩
  · obtain ⟨p, h1, h2, h3, h4⟩ := TU I J l (i + 1) x R h
    exact ⟨p + 1, by rw [List.getElem?_cons_succ]; exact h1, by omega, by omega, by rw [h4, List.drop_succ_cons, show i + 1 + p + 1 = i + (p + 1) + 1 by omega]⟩
theorem Z8 {I J : Nat} {N : List (List UInt8)} {x y : List UInt8} (hx : (F8 I J 0 N)[0]? = some x) (hy : (F8 I J 0 N)[1]? = some y) : ∃ p q : Nat, N[p]? = some x ∧ N[q]? = some y ∧ p ≠ q ∧ I ≠ p ∧ I ≠ q ∧ J ≠ p ∧ J ≠ q := by
 cases e : F8 I J 0 N with
 | nil => rw [e] at hx; cases hx
 | cons x' R =>
  rw [e] at hx hy
  obtain rfl : x' = x := by simpa using hx
  obtain ⟨p, h1, h2, h3, h4⟩ := TU I J N 0 x' R e
  rw [List.getElem?_cons_succ] at hy
  cases e2 : R with
  | nil => rw [e2] at hy; cases hy
  | cons y' R' =>
   rw [e2] at hy
   obtain rfl : y' = y := by simpa using hy
   rw [e2] at h4
   obtain ⟨q, g1, g2, g3, _⟩ := TU I J (N.drop (p + 1)) (0 + p + 1) y' R' h4.symm
   rw [List.getElem?_drop] at g1
   exact ⟨p, p + 1 + q, h1, g1, by omega, by omega, by omega, by omega, by omega⟩
structure SwB (s : A8) (v8 v9 : Value) (H : Hist) (N : List (List UInt8)) : Prop where
 k : KOk s
 b6 : Book6 H
 hD : RdS s v8 (CO H)
 hv : RdS s v9 N
 eN : N = nms (run H).comps
theorem SwB.ext {s s' : A8} {v8 v9 : Value} {H : Hist} {N : List (List UInt8)} (h : SwB s v8 v9 H N) (x : Ext s s') : SwB s' v8 v9 H N := ⟨h.k.ext x, h.b6, h.hD.ext x, h.hv.ext x, h.eN⟩
theorem SwB.len {s : A8} {v8 v9 : Value} {H : Hist} {N : List (List UInt8)} (h : SwB s v8 v9 H N) : 4 ≤ N.length ∧ N.length ≤ 5 ∧ 0 < H.length := by
 have e : N.length = (run H).comps.length := by rw [h.eN]; unfold nms; rw [List.length_map]
 refine ⟨by have := h.b6.ge; omega, by have := h.b6.le; omega, ?_⟩
 cases hH : H with
 | nil => have := h.b6.ge; rw [hH] at this; exact absurd this (by decide)
 | cons _ _ => exact Nat.succ_pos _
theorem SwB.nb {s : A8} {v8 v9 : Value} {H : Hist} {N : List (List UInt8)} (h : SwB s v8 v9 H N) {i : Nat} {x : List UInt8} (hx : N[i]? = some x) : x.length ≤ 6 := by
 rw [h.eN] at hx
 exact Jp (h.b6.ok.names.ok _ (List.mem_of_getElem? hx))
structure I4 (s : A8) (q a b c : Nat) : Prop where
 g : s.get q = some (.cells [qV a, qV b, qV c] 60 true)
 lt : q < s.nx
 a : a < 256
 b : b < 256
 c : c < 256
theorem I4.ext {s s' : A8} {q a b c : Nat} (h : I4 s q a b c) (x : Ext s s') : I4 s' q a b c := ⟨(x.get q h.lt).trans h.g, Nat.lt_of_lt_of_le h.lt x.nx, h.a, h.b, h.c⟩
theorem I4.r0 {s : A8} {q a b c : Nat} (h : I4 s q a b c) : s.rd1 q 0 = some (.int .u8 (a : Int)) := by rw [Ag h.g]; rfl
theorem I4.r1 {s : A8} {q a b c : Nat} (h : I4 s q a b c) : s.rd1 q 1 = some (.int .u8 (b : Int)) := by rw [Ag h.g]; rfl
theorem I4.r2 {s : A8} {q a b c : Nat} (h : I4 s q a b c) : s.rd1 q 2 = some (.int .u8 (c : Int)) := by rw [Ag h.g]; rfl
theorem p3_0 (q : Nat) : Bo 3 1 (.pointer (some ⟨q, 0, none⟩)) (.int .i64 0) = some (.pointer (some ⟨q, 0, none⟩)) := rfl
theorem p3_1 (q : Nat) : Bo 3 1 (.pointer (some ⟨q, 0, none⟩)) (.int .i64 1) = some (.pointer (some ⟨q, 1, none⟩)) := rfl
theorem p3_2 (q : Nat) : Bo 3 1 (.pointer (some ⟨q, 0, none⟩)) (.int .i64 2) = some (.pointer (some ⟨q, 2, none⟩)) := rfl
theorem TV {a b : List UInt8} (ha : a.length ≤ 6) (hb : b.length ≤ 6) (z : Nat) :
 Az .add (.string ⟨#[115, 119, 97, 112, 32]⟩) (.string (ofL a)) = some (.string (ofL (Cj ++ a))) ∧ Az .add (.string (ofL (Cj ++ a))) (.string ⟨#[32]⟩) = some (.string (ofL ((Cj ++ a) ++ [32]))) ∧
 Az .add (.string (ofL ((Cj ++ a) ++ [32]))) (.string (ofL b)) = some (.string (ofL (((Cj ++ a) ++ [32]) ++ b))) ∧ Az .add (.string (ofL (((Cj ++ a) ++ [32]) ++ b))) (.string ⟨#[32]⟩) = some (.string (ofL ((((Cj ++ a) ++ [32]) ++ b) ++ [32]))) ∧
 Az .add (.string (ofL ((((Cj ++ a) ++ [32]) ++ b) ++ [32]))) (.string (ofL (kindOf z))) = some (.string (ofL (BP a b (z % 4)))) := by
 have nk : (kindOf z).length ≤ 6 := Jq _
 refine ⟨Dn Cj a (by show 5 + _ ≤ _; omega), Dn (Cj ++ a) [32] (by rw [List.length_append]; show 5 + _ + 1 ≤ _; omega), Dn ((Cj ++ a) ++ [32]) b (by rw [List.length_append, List.length_append]; show 5 + _ + 1 + _ ≤ _; omega),
  Dn (((Cj ++ a) ++ [32]) ++ b) [32] (by rw [List.length_append, List.length_append, List.length_append]; show 5 + _ + 1 + _ + 1 ≤ _; omega), ?_⟩
 exact Dn ((((Cj ++ a) ++ [32]) ++ b) ++ [32]) (kindOf z) (by rw [List.length_append, List.length_append, List.length_append, List.length_append]; show 5 + _ + 1 + _ + 1 + _ ≤ _; omega)
end Go.Im
set_option maxRecDepth 100000
set_option maxHeartbeats 4000000
namespace Go.Im
section
variable {m q4 a0 a1 a2 : Nat} {v8 v9 : Value} {H : Hist} {N : List (List UInt8)} {I J : Nat} {wI wJ : List UInt8}
theorem NH (hm : 60000 ≤ m) {s : A8} (h : SwB s v8 v9 H N) (hI : N[I]? = some wI) (hJ : N[J]? = some wJ) (hIJ : I ≠ J) {k : Nat} (hk : k < 4) {p q k' : Nat} {wp wq : List UInt8} (hp : N[p]? = some wp) (hq : N[q]? = some wq) (hpq : p ≠ q) (hk' : k' < 4) (hx : k ≠ k' ∨ (I ≠ p ∧ I ≠ q ∧ J ≠ p ∧ J ≠ q)) :
 ∃ s', MP B6 (AU AB Ah m) m v8 v9 (.string (ofL (BP wI wJ k))) (.string (ofL (BP wp wq k'))) s = .ok (.bool true, s') := by
 obtain ⟨_, _, h0⟩ := h.len
 have hl := h.b6.len
 have eN := h.eN
 rw [eN] at hI hJ hp hq
 obtain ⟨lk, nm⟩ := iI h.b6.ok (by omega) hI hJ hIJ hk hp hq hpq hk' hx
 exact Wp m hm h.k h.b6.ok (by omega) h0 h.hD (by have := h.hv; rw [eN] at this; exact this) lk nm
theorem Z9 (hm : 60000 ≤ m) {s : A8} (h : SwB s v8 v9 H N) (h4 : I4 s q4 a0 a1 a2) (hI : N[I]? = some wI) (hJ : N[J]? = some wJ) (hIJ : I ≠ J) {p q k' : Nat} {wp wq : List UInt8} (hp : N[p]? = some wp) (hq : N[q]? = some wq) (hpq : p ≠ q) (hk' : k' < 4) (hx : a2 % 4 ≠ k') {v26 : Value} (hR : RdS s v26 (F8 I J 0 N)) :
 ∃ s', dM B6 (AU AB Ah m) m (.pointer (some ⟨q4, 0, none⟩)) v8 v9 (.string (ofL (BP wI wJ (a2 % 4)))) (.string (ofL (BP wp wq k'))) v26 s = .ok (.bool true, s') := by
 by_cases c : 2 ≤ (F8 I J 0 N).length
 · obtain ⟨x, hx0⟩ := BU (show 0 < (F8 I J 0 N).length by omega)
   obtain ⟨y, hy0⟩ := BU (show 1 < (F8 I J 0 N).length by omega)
   obtain ⟨p', q', hp', hq', hpq', i1, i2, i3, i4⟩ := Z8 hx0 hy0
   obtain ⟨l0, lt0, ia0, rd0⟩ := hR.at_ 0 x hx0
   obtain ⟨l1, lt1, ia1, rd1⟩ := hR.at_ 1 y hy0
   obtain ⟨s1, d36, x1⟩ := k36 m (by omega) a2 h4.c s
   obtain ⟨s', e⟩ := NH hm (h.ext x1) hI hJ hIJ (Nat.mod_lt a2 (by decide)) hp' hq' hpq' (Nat.mod_lt a2 (by decide)) (.inr ⟨i1, i2, i3, i4⟩)
   refine ⟨s', ?_⟩
   obtain ⟨e1, e2, e3, e4, e5⟩ := TV (h.nb hp') (h.nb hq') a2
   have b1 : Nat.ble s.nx s1.nx = true := Aa.2 x1.nx
   have c2 : (2 : Int) ≤ ((F8 I J 0 N).length : Int) := by omega
   obtain ⟨_, _, ia0', rd0'⟩ := (hR.ext x1).at_ 0 x hx0
   have ck0 : Bz s (some (.pointer (some ⟨l0, 0, none⟩))) (some (strOf x)) (strOf x) = true := CU lt0 (Jj x)
   have ck1 : Bz s (some (.pointer (some ⟨l1, 1, none⟩))) (some (strOf y)) (strOf y) = true := CU lt1 (Jj y)
   have ck0' : Bz s1 (some (.pointer (some ⟨l0, 0, none⟩))) (some (strOf x)) (strOf x) = true := CU (by have := x1.nx; omega) (Jj x)
   have ck1' : Bz s1 (some (.pointer (some ⟨l1, 1, none⟩))) (some (strOf y)) (strOf y) = true := CU (by have := x1.nx; omega) (Jj y)
   have rd0s : s1.rd1 l0 0 = some (strOf x) := by
    have := x1.get l0 lt0; unfold A8.rd1 at rd0 ⊢; rw [this]; exact rd0
   have rd1s : s1.rd1 l1 1 = some (strOf y) := by
    have := x1.get l1 lt1; unfold A8.rd1 at rd1 ⊢; rw [this]; exact rd1
   have r2 := h4.r2
   have ia0 : BN 1 v26 (.int .i64 0) = some (.pointer (some ⟨l0, 0, none⟩)) := ia0
   have ia1 : BN 1 v26 (.int .i64 1) = some (.pointer (some ⟨l1, 1, none⟩)) := ia1
   unfold strOf at rd0 rd1 rd0s rd1s ck0 ck1 ck0' ck1'
   rw [Uf B6 rfl]
   simp only [hR.len, Ad, BD, bind_ok, D8, C9, IB, decide_eq_true c2, Ar, Du, Dv, ia0, ia1, CS, rd0, rd1, e1, e2, e3, e4, p3_2, r2, d36, b1, e5, rd0s, rd1s, ck0, ck1, ck0', ck1', Bool.and_true]
   exact e
 · obtain ⟨s', e⟩ := NH hm h hI hJ hIJ (Nat.mod_lt a2 (by decide)) hp hq hpq hk' (.inl hx)
   refine ⟨s', ?_⟩
   have c2 : ¬ (2 : Int) ≤ ((F8 I J 0 N).length : Int) := by omega
   rw [Uf B6 rfl]
   simp only [hR.len, Ad, BD, bind_ok, IB, decide_eq_false c2, Ar, Dv]
   exact e
theorem ZA (hm : 60000 ≤ m) {t0 : A8} (h : SwB t0 v8 v9 H N) (h4 : I4 t0 q4 a0 a1 a2) (hI : N[I]? = some wI) (hJ : N[J]? = some wJ) (hIJ : I ≠ J) {p q k' : Nat} {wp wq : List UInt8} (hp : N[p]? = some wp) (hq : N[q]? = some wq) (hpq : p ≠ q) (hk' : k' < 4) (hx : a2 % 4 ≠ k') :
 ∀ (d i f : Nat) (s : A8) (base : Option Nat) (v26 : Value) (R : List (List UInt8)), i + d = N.length → d < f → R.length ≤ i → R ++ F8 I J i (N.drop i) = F8 I J 0 N → Ext t0 s → DF s base v26 R → (∀ b, base = some b → t0.nx ≤ b) →
 ∃ s', Ub B6 (AU AB Ah m) m f (.pointer (some ⟨q4, 0, none⟩)) v8 v9 (.int .i64 (I : Int)) (.int .i64 (J : Int)) (.string (ofL (BP wI wJ (a2 % 4)))) (.string (ofL (BP wp wq k'))) v26 v9 (.int .i64 (N.length : Int)) (.int .i64 (i : Int)) s = .ok (.bool true, s') := by
 obtain ⟨n4, n5, _⟩ := h.len
 intro d
 induction d with
 | zero =>
  intro i f s base v26 R hi hf hRi eR x hL hb
  obtain ⟨f, rfl, _⟩ := Ae hf
  obtain rfl : i = N.length := by omega
  rw [List.drop_length] at eR
  have eR : R ++ [] = F8 I J 0 N := eR
  rw [List.append_nil] at eR
  have : ¬ (N.length : Int) < (N.length : Int) := by omega
  obtain ⟨s', e⟩ := Z9 hm (h.ext x) (h4.ext x) hI hJ hIJ hp hq hpq hk' hx (v26 := v26) (by rw [← eR]; exact hL.rdS)
  refine ⟨s', ?_⟩
  rw [LX B6 rfl]
  simp only [Bq, decide_eq_false this, Dv]
  exact e
 | succ d ih =>
  intro i f s base v26 R hi hf hRi eR x hL hb
  obtain ⟨f, rfl, _⟩ := Ae hf
  obtain ⟨y, hy⟩ := BU (show i < N.length by omega)
  have hlt : (i : Int) < (N.length : Int) := by omega
  have hw : BL .i64 ((i : Int) + 1) = ((i + 1 : Nat) : Int) := by rw [wrap64 (by omega)]; omega
  obtain ⟨lb, _, ia, rd⟩ := (h.hv.ext x).at_ i y hy
  rw [drop_at hy, F8] at eR
  unfold strOf at rd
  by_cases cI : i = I
  · rw [if_neg (by omega)] at eR
    obtain ⟨s', e⟩ := ih (i + 1) f s base v26 R (by omega) (by omega) (by omega) eR x hL hb
    refine ⟨s', ?_⟩
    have ci : (i : Int) = (I : Int) := by omega
    have z : (false == true) = false := rfl
    rw [LX B6 rfl]
    simp only [Bq, decide_eq_true hlt, Du, PG B6 rfl, ia, Ad, BD, bind_ok, CS, rd, LV, decide_eq_true ci, Bool.not_true, z, dH, Jg, Ar, Dv, GN, hw]
    exact e
  · have ci : ¬ (i : Int) = (I : Int) := by omega
    by_cases cJ : i = J
    · rw [if_neg (by omega)] at eR
      obtain ⟨s', e⟩ := ih (i + 1) f s base v26 R (by omega) (by omega) (by omega) eR x hL hb
      refine ⟨s', ?_⟩
      have cj : (i : Int) = (J : Int) := by omega
      rw [LX B6 rfl]
      simp only [Bq, decide_eq_true hlt, Du, PG B6 rfl, ia, Ad, BD, bind_ok, CS, rd, LV, decide_eq_false ci, Bool.not_false, beq_self_eq_true, Nb, E9, decide_eq_true cj, Bool.not_true, LU, Ar, Dv, GN, hw]
      exact e
    · rw [if_pos ⟨cI, cJ⟩] at eR
      have cj : ¬ (i : Int) = (J : Int) := by omega
      obtain ⟨v', s2, base', w, L2, fb, x2, n2⟩ := hL.push x hb (by omega) y
      obtain ⟨s', e⟩ := ih (i + 1) f s2 base' v' (R ++ [y]) (by omega) (by omega) (by simp; omega) (by rw [List.append_assoc]; exact eR) x2 L2 fb
      refine ⟨s', ?_⟩
      rw [LX B6 rfl]
      simp only [Bq, decide_eq_true hlt, Du, PG B6 rfl, ia, Ad, BD, bind_ok, CS, rd, LV, decide_eq_false ci, Bool.not_false, beq_self_eq_true, Nb, E9, decide_eq_false cj, LU, Ar, Nl, w, Aq, GN, hw]
      exact e
end
end Go.Im
set_option maxRecDepth 100000
set_option maxHeartbeats 4000000
namespace Go.Im
theorem iJ (x : Nat) : BL .u8 (x : Int) = ((x % 256 : Nat) : Int) := by rw [FZ, wrap_u8]; omega
theorem RdS.both {s s1 : A8} {v : Value} {L : List (List UInt8)} (h : RdS s v L) (x1 : Ext s s1) {i : Nat} {x : List UInt8} (hx : L[i]? = some x) : ∃ lb, BN 1 v (.int .i64 (i : Int)) = some (.pointer (some ⟨lb, i, none⟩)) ∧ s.rd1 lb i = some (.string (ofL x)) ∧ s1.rd1 lb i = some (.string (ofL x)) ∧
 Bz s (some (.pointer (some ⟨lb, i, none⟩))) (some (.string (ofL x))) (.string (ofL x)) = true ∧ Bz s1 (some (.pointer (some ⟨lb, i, none⟩))) (some (.string (ofL x))) (.string (ofL x)) = true := by
 obtain ⟨lb, lt, ia, rd⟩ := h.at_ i x hx
 refine ⟨lb, ia, rd, ?_, CU lt (Jj x), CU (by have := x1.nx; omega) (Jj x)⟩
 have := x1.get lb lt
 unfold A8.rd1 at rd ⊢
 rw [this]; exact rd
section
variable {m q4 q5 a0 a1 a2 b0 b1 b2 : Nat} {v8 v9 : Value} {H : Hist} {N : List (List UInt8)} {I J : Nat} {wI wJ : List UInt8}
theorem ZB (hm : 60000 ≤ m) {s : A8} (h : SwB s v8 v9 H N) (h4 : I4 s q4 a0 a1 a2) (h5 : I4 s q5 b0 b1 b2) (hI : N[I]? = some wI) (hJ : N[J]? = some wJ) (hIJ : I ≠ J) :
 ∃ s', XL B6 (AU AB Ah m) m (.pointer (some ⟨q4, 0, none⟩)) (.pointer (some ⟨q5, 0, none⟩)) v8 v9 (.int .i64 (I : Int)) (.int .i64 (J : Int)) (.string (ofL (BP wI wJ (a2 % 4)))) s = .ok (.bool true, s') := by
 obtain ⟨n4, n5, _⟩ := h.len
 have hb0 := h5.a
 have ha2 := h4.c
 obtain ⟨p, hp⟩ : ∃ p, p = b0 % N.length := ⟨_, rfl⟩
 obtain ⟨q, hq⟩ : ∃ q, q = (b0 + 1) % N.length := ⟨_, rfl⟩
 have pl : p < N.length := by rw [hp]; exact Nat.mod_lt _ (by omega)
 have ql : q < N.length := by rw [hq]; exact Nat.mod_lt _ (by omega)
 have pq : p ≠ q := by
  intro e
  rw [hp, hq] at e
  rcases (by omega : N.length = 4 ∨ N.length = 5) with l | l <;> rw [l] at e <;> omega
 obtain ⟨wp, hwp⟩ := BU pl
 obtain ⟨wq, hwq⟩ := BU ql
 obtain ⟨z, hz⟩ : ∃ z, z = ((a2 + 1) % 256 + b2 % 3) % 256 := ⟨_, rfl⟩
 have z256 : z < 256 := by omega
 have zne : a2 % 4 ≠ z % 4 := by omega
 obtain ⟨s1, d36, x1⟩ := k36 m (by omega) z z256 s
 obtain ⟨lp, iap, rdp, rdp', ckp, ckp'⟩ := h.hv.both x1 hwp
 obtain ⟨lq, iaq, rdq, rdq', ckq, ckq'⟩ := h.hv.both x1 hwq
 obtain ⟨e1, e2, e3, e4, e5⟩ := TV (h.nb hwp) (h.nb hwq) z
 have bb1 : Nat.ble s.nx s1.nx = true := Aa.2 x1.nx
 have wb0 : BL .i64 (b0 : Int) = (b0 : Int) := wrap64 (by omega)
 have wb01 : BL .i64 ((b0 : Int) + 1) = ((b0 + 1 : Nat) : Int) := by rw [wrap64 (by omega)]; omega
 have rem1 : Az .rem (.int .i64 (b0 : Int)) (.int .i64 (N.length : Int)) = some (.int .i64 (p : Int)) := by rw [hp]; exact N9 b0 N.length (by omega)
 have rem2 : Az .rem (.int .i64 ((b0 + 1 : Nat) : Int)) (.int .i64 (N.length : Int)) = some (.int .i64 (q : Int)) := by rw [hq]; exact N9 (b0 + 1) N.length (by omega)
 have WV : Az .rem (.int .u8 (b2 : Int)) (.int .u8 3) = some (.int .u8 ((b2 % 3 : Nat) : Int)) := gX b2 3 (by decide)
 have wu1 : BL .u8 ((a2 : Int) + 1) = (((a2 + 1) % 256 : Nat) : Int) := iJ (a2 + 1)
 have wu2 : BL .u8 ((((a2 + 1) % 256 : Nat) : Int) + ((b2 % 3 : Nat) : Int)) = (z : Int) := by rw [hz]; exact iJ ((a2 + 1) % 256 + b2 % 3)
 have r0 := h5.r0
 have r0' := (h5.ext x1).r0
 have r1' := (h5.ext x1).r1
 have r2 := h5.r2
 have r42 := h4.r2
 have c0 : Bz s (some (.pointer (some ⟨q5, 0, none⟩))) (some (.int .u8 (b0 : Int))) (.int .u8 (b0 : Int)) = true := CU h5.lt (Uw b0)
 have c0' : Bz s1 (some (.pointer (some ⟨q5, 0, none⟩))) (some (.int .u8 (b0 : Int))) (.int .u8 (b0 : Int)) = true := CU (h5.ext x1).lt (Uw b0)
 have z4 : z % 4 < 4 := Nat.mod_lt _ (by decide)
 by_cases c : 128 ≤ b1
 · have cc : (128 : Int) ≤ (b1 : Int) := by omega
   obtain ⟨s', e⟩ := ZA hm (h.ext x1) (h4.ext x1) hI hJ hIJ hwp hwq pq z4 zne N.length 0 m s1 none (.slice none 0 0) [] (by omega) (by omega) (Nat.le_refl _) rfl (.refl s1) (.inl ⟨rfl, rfl, rfl⟩) (by simp)
   refine ⟨s', ?_⟩
   rw [Ue B6 rfl]
   simp only [p3_0, p3_1, p3_2, Ad, BD, bind_ok, D8, C9, CS, r0, Dw, wb0, h.hv.len, rem1, iap, rdp, e1, e2, Fa, wb01, rem2, iaq, rdq, e3, e4, r42, wu1, r2, WV, wu2, d36, bb1, e5, r0', rdp', rdq', c0, c0', ckp, ckp', ckq, ckq', Bool.and_true, Du, r1', IB, decide_eq_true cc, Ar]
   exact e
 · have cc : ¬ (128 : Int) ≤ (b1 : Int) := by omega
   obtain ⟨s', e⟩ := NH hm (h.ext x1) hI hJ hIJ (Nat.mod_lt a2 (by decide)) hwp hwq pq z4 (.inl zne)
   refine ⟨s', ?_⟩
   rw [Ue B6 rfl]
   simp only [p3_0, p3_1, p3_2, Ad, BD, bind_ok, D8, C9, CS, r0, Dw, wb0, h.hv.len, rem1, iap, rdp, e1, e2, Fa, wb01, rem2, iaq, rdq, e3, e4, r42, wu1, r2, WV, wu2, d36, bb1, e5, r0', rdp', rdq', c0, c0', ckp, ckp', ckq, ckq', Bool.and_true, Du, r1', IB, decide_eq_false cc, Ar, Dv]
   exact e
theorem ZC (hm : 60000 ≤ m) {s : A8} (h : SwB s v8 v9 H N) (h4 : I4 s q4 a0 a1 a2) (h5 : I4 s q5 b0 b1 b2) (hI : N[I]? = some wI) (hJ : N[J]? = some wJ) (hIJ : I ≠ J) {b : Nat} {F : Nat → Prop} (B : BO s b H F) :
 ∃ s', dL B6 (AU AB Ah m) m (.pointer (some ⟨q4, 0, none⟩)) (.pointer (some ⟨q5, 0, none⟩)) (.pointer (some ⟨b, 0, none⟩)) v8 v9 (.int .i64 (I : Int)) (.int .i64 (J : Int)) (.string (ofL (BP wI wJ (a2 % 4)))) s = .ok (.bool true, s') := by
 obtain ⟨n4, n5, h0⟩ := h.len
 have hl := h.b6.len
 obtain ⟨x, hx⟩ : ∃ x, x = BP wI wJ (a2 % 4) := ⟨_, rfl⟩
 have lk := Wq h.b6.ok (by omega) (by rw [← h.eN]; exact hI) (by rw [← h.eN]; exact hJ) hIJ (Nat.mod_lt a2 (show 0 < 4 by decide))
 rw [← hx] at lk
 obtain ⟨v1, s1, v2, s2, b', vd, s3, F', w1, w2, d31, B3, x3, k3⟩ := Xh m hm h.k h.b6.ok (by omega) h0 h.hD [x, x] (Nat.succ_pos _) (Nat.le_refl _)
 obtain ⟨s4, e, x4⟩ := Z7 m m (by omega) (B.ext x3) B3 lk h.eN (by omega) (v4 := .pointer (some ⟨q4, 0, none⟩)) (v5 := .pointer (some ⟨q5, 0, none⟩)) (v8 := v8) (i10 := (I : Int)) (i11 := (J : Int)) (x12 := ofL x) (h.hv.ext x3) N.length 0 m s3 (by omega) (by omega) (.refl s3)
 have x04 := x3.trans x4
 obtain ⟨s', e'⟩ := ZB hm (h.ext x04) (h4.ext x04) (h5.ext x04) hI hJ hIJ
 rw [← hx] at e' ⊢
 refine ⟨s', ?_⟩
 have e : Ua B6 (AU AB Ah m) m m (.pointer (some ⟨q4, 0, none⟩)) (.pointer (some ⟨q5, 0, none⟩)) (.pointer (some ⟨b, 0, none⟩)) v8 v9 (.int .i64 (I : Int)) (.int .i64 (J : Int)) (.string (ofL x)) (.pointer (some ⟨b', 0, none⟩)) v9 (.int .i64 (N.length : Int)) (.int .i64 0) s3 = .ok (.bool true, s') := e.trans e'
 have w2 : Df (s1.new (.cells ([x, x].map strOf) 9 true)) 9 1 16 v1 (.slice (some ⟨s1.nx, 0, none⟩) 2 2) = some (v2, s2) := w2
 rw [dQ B6 rfl]
 simp only [Xi, iG, Ad, BD, bind_ok, MF, w1, w2, Aq, d31, CP, List.getElem?_cons_zero, List.getElem?_cons_succ, h.hv.len, e]
theorem RY (hm : 60000 ≤ m) {s : A8} (h : SwB s v8 v9 H N) (h4 : I4 s q4 a0 a1 a2) (h5 : I4 s q5 b0 b1 b2) (hI : N[I]? = some wI) (hJ : N[J]? = some wJ) (hIJ : I ≠ J) {b : Nat} {F : Nat → Prop} (B : BO s b H F) :
 ∃ s', XK B6 (AU AB Ah m) m (.pointer (some ⟨q4, 0, none⟩)) (.pointer (some ⟨q5, 0, none⟩)) (.pointer (some ⟨b, 0, none⟩)) v8 v9 (.int .i64 (I : Int)) (.int .i64 (J : Int)) s = .ok (.bool true, s') := by
 obtain ⟨n4, n5, h0⟩ := h.len
 have hl := h.b6.len
 have ha2 := h4.c
 have k4 : a2 % 4 < 4 := Nat.mod_lt _ (by decide)
 obtain ⟨s1, d36, x1⟩ := k36 m (by omega) a2 ha2 s
 obtain ⟨lp, iap, rdp, rdp', ckp, ckp'⟩ := h.hv.both x1 hI
 obtain ⟨lq, iaq, rdq, rdq', ckq, ckq'⟩ := h.hv.both x1 hJ
 obtain ⟨e1, e2, e3, e4, e5⟩ := TV (h.nb hI) (h.nb hJ) a2
 have bb1 : Nat.ble s.nx s1.nx = true := Aa.2 x1.nx
 have r42 := h4.r2
 obtain ⟨s2, d30, x2⟩ := (B.ext x1).at30 m (by omega)
 have x02 := x1.trans x2
 have hI' := hI
 have hJ' := hJ
 rw [h.eN] at hI' hJ'
 obtain ⟨H1, t1, ok1, l1, r1, nm1⟩ := FN h.b6.ok (by omega) hI' hJ' hIJ k4
 obtain ⟨v1, s3, v2, s4, b', vd, s5, F', w1, w2, d31, B5, x5, k5⟩ := Xh m hm (h.k.ext x02) h.b6.ok (by omega) h0 (h.hD.ext x02) [BP wI wJ (a2 % 4)] (Nat.succ_pos _) (Nat.le_succ _)
 have tt : CY H [BP wI wJ (a2 % 4)] = H1 := t1
 rw [tt] at B5
 obtain ⟨s6, d30', x6⟩ := B5.at30 m (by omega)
 have x06 := (x02.trans x5).trans x6
 obtain ⟨s', e⟩ := ZC hm (h.ext x06) (h4.ext x06) (h5.ext x06) hI hJ hIJ (B.ext x06)
 refine ⟨s', ?_⟩
 have w2 : Df (s3.new (.cells ([BP wI wJ (a2 % 4)].map strOf) 9 true)) 9 1 16 v1 (.slice (some ⟨s3.nx, 0, none⟩) 1 1) = some (v2, s4) := w2
 have pm := Z5 h.b6.ok h.b6.le (Nr hI') (Nr hJ') hIJ k4
 rw [← r1] at pm
 have le1 := Ns h.b6.ok
 have le2 := Ns ok1
 obtain ⟨d, hd⟩ : ∃ d, d = (D7 (run H)).length := ⟨_, rfl⟩
 obtain ⟨d', hd'⟩ : ∃ d, d = (D7 (run H1)).length := ⟨_, rfl⟩
 rw [← hd] at pm le1 d30
 rw [← hd'] at pm le2 d30'
 have wp : BL .i64 ((d : Int) + 1) = (d : Int) + 1 := wrap64 (by omega)
 have wm : BL .i64 ((d : Int) - 1) = (d : Int) - 1 := wrap64 (by omega)
 have z : (false == true) = false := rfl
 rw [dP B6 rfl]
 by_cases c : (d' : Int) = (d : Int) + 1
 · simp only [p3_2, iap, iaq, rdp, rdq, Ad, BD, bind_ok, D8, C9, CS, e1, e2, e3, e4, r42, d36, bb1, e5, rdp', rdq', ckp, ckp', ckq, ckq', Bool.and_true, Du, d30, Xi, iH, MF, w1, w2, Aq, d31, CP, List.getElem?_cons_zero, List.getElem?_cons_succ, d30', Fa, wp, E9, decide_eq_true c, Bool.not_true, E8, z, dH, Jg, Ar, Dv]
   exact e
 · have c' : (d' : Int) = (d : Int) - 1 := by omega
   simp only [p3_2, iap, iaq, rdp, rdq, Ad, BD, bind_ok, D8, C9, CS, e1, e2, e3, e4, r42, d36, bb1, e5, rdp', rdq', ckp, ckp', ckq, ckq', Bool.and_true, Du, d30, Xi, iH, MF, w1, w2, Aq, d31, CP, List.getElem?_cons_zero, List.getElem?_cons_succ, d30', Fa, wp, E9, decide_eq_false c, Bool.not_false, E8, beq_self_eq_true, Nb, LW, wm, decide_eq_true c', Bool.not_true, LU, Ar, Dv]
   exact e
end
end Go.Im
set_option maxRecDepth 100000
set_option maxHeartbeats 4000000
namespace Go.Im
theorem ZE {m q4 q5 a0 a1 a2 b0 b1 b2 : Nat} {v8 v9 : Value} {H : Hist} {N : List (List UInt8)} (hm : 60000 ≤ m) {s : A8} (h : SwB s v8 v9 H N) (h4 : I4 s q4 a0 a1 a2) (h5 : I4 s q5 b0 b1 b2) {b : Nat} {F : Nat → Prop} (B : BO s b H F) :
 ∃ s', dK B6 (AU AB Ah m) m (.pointer (some ⟨q4, 0, none⟩)) (.pointer (some ⟨q5, 0, none⟩)) (.pointer (some ⟨b, 0, none⟩)) v8 v9 s = .ok (.bool true, s') := by
 obtain ⟨n4, n5, _⟩ := h.len
 have ha0 := h4.a
 have ha1 := h4.b
 obtain ⟨I, hI⟩ : ∃ I, I = a0 % N.length := ⟨_, rfl⟩
 obtain ⟨J0, hJ0⟩ : ∃ J, J = a1 % (N.length - 1) := ⟨_, rfl⟩
 have Il : I < N.length := by rw [hI]; exact Nat.mod_lt _ (by omega)
 have Jl : J0 < N.length - 1 := by rw [hJ0]; exact Nat.mod_lt _ (by omega)
 have w0 : BL .i64 (a0 : Int) = (a0 : Int) := wrap64 (by omega)
 have w1 : BL .i64 (a1 : Int) = (a1 : Int) := wrap64 (by omega)
 have wn : BL .i64 ((N.length : Int) - 1) = ((N.length - 1 : Nat) : Int) := by rw [wrap64 (by omega)]; omega
 have rem1 : Az .rem (.int .i64 (a0 : Int)) (.int .i64 (N.length : Int)) = some (.int .i64 (I : Int)) := by rw [hI]; exact N9 a0 N.length (by omega)
 have rem2 : Az .rem (.int .i64 (a1 : Int)) (.int .i64 ((N.length - 1 : Nat) : Int)) = some (.int .i64 (J0 : Int)) := by rw [hJ0]; exact N9 a1 (N.length - 1) (by omega)
 have wj : BL .i64 ((J0 : Int) + 1) = ((J0 + 1 : Nat) : Int) := by rw [wrap64 (by omega)]; omega
 have r0 := h4.r0
 have r1 := h4.r1
 have c0 : Bz s (some (.pointer (some ⟨q4, 0, none⟩))) (some (.int .u8 (a0 : Int))) (.int .u8 (a0 : Int)) = true := CU h4.lt (Uw a0)
 have c1 : Bz s (some (.pointer (some ⟨q4, 1, none⟩))) (some (.int .u8 (a1 : Int))) (.int .u8 (a1 : Int)) = true := CU h4.lt (Uw a1)
 obtain ⟨wI, hwI⟩ := BU Il
 by_cases c : I ≤ J0
 · have cc : (I : Int) ≤ (J0 : Int) := by omega
   obtain ⟨wJ, hwJ⟩ := BU (show J0 + 1 < N.length by omega)
   obtain ⟨s', e⟩ := RY hm h h4 h5 hwI hwJ (by omega) B
   refine ⟨s', ?_⟩
   rw [Uc B6 rfl]
   simp only [p3_0, p3_1, Ad, BD, bind_ok, D8, C9, CS, r0, r1, Dw, w0, w1, h.hv.len, rem1, LW, wn, rem2, c0, c1, Bool.and_true, Du, IB, decide_eq_true cc, Ar, Fa, wj]
   exact e
 · have cc : ¬ (I : Int) ≤ (J0 : Int) := by omega
   obtain ⟨wJ, hwJ⟩ := BU (show J0 < N.length by omega)
   obtain ⟨s', e⟩ := RY hm h h4 h5 hwI hwJ (by omega) B
   refine ⟨s', ?_⟩
   rw [Uc B6 rfl]
   simp only [p3_0, p3_1, Ad, BD, bind_ok, D8, C9, CS, r0, r1, Dw, w0, w1, h.hv.len, rem1, LW, wn, rem2, c0, c1, Bool.and_true, Du, IB, decide_eq_false cc, Ar, Dv, Fa, wj]
   exact e
theorem f6_run (n : Nat) (hn : 60100 ≤ n) {s0 : A8} (hk : KOk s0) {v0 v1 v2 : Value} {L : List G6} (hQ : RdQ s0 v0 L) {a0 a1 a2 b0 b1 b2 : Nat} (h1 : cellsOf v1 = [qV a0, qV a1, qV a2]) (h2 : cellsOf v2 = [qV b0, qV b1, qV b2]) (ha : a0 < 256 ∧ a1 < 256 ∧ a2 < 256) (hb : b0 < 256 ∧ b1 < 256 ∧ b2 < 256) :
 ∃ s', AU AB Ah n (.fn 6) [v0, v1, v2] s0 = .ok (.bool true, s') := by
 obtain ⟨m, rfl, _⟩ := Ae (show 1 ≤ n by omega)
 obtain ⟨s1, hs1⟩ : ∃ s1, s1 = (s0.new (.cells [qV a0, qV a1, qV a2] 60 true)).new (.cells [qV b0, qV b1, qV b2] 60 true) := ⟨_, rfl⟩
 have x1 : Ext s0 s1 := by rw [hs1]; exact ((Ext.refl s0).new _).new _
 have A4 : I4 s1 s0.nx a0 a1 a2 := ⟨by rw [hs1, A8.Af, if_neg (by show s0.nx ≠ s0.nx + 1; omega), A8.Af, if_pos rfl], by rw [hs1]; show s0.nx < s0.nx + 1 + 1; omega, ha.1, ha.2.1, ha.2.2⟩
 have A5 : I4 s1 (s0.nx + 1) b0 b1 b2 := ⟨by rw [hs1, A8.Af]; exact if_pos rfl, by rw [hs1]; show s0.nx + 1 < s0.nx + 1 + 1; omega, hb.1, hb.2.1, hb.2.2⟩
 obtain ⟨va, s2, ba, d32, x2, La, fa⟩ := k32 m (by omega) false (hQ.ext x1)
 obtain ⟨u, hu⟩ : ∃ u, u = s2.new (.cells ([wCy, V4].map strOf) 9 true) := ⟨_, rfl⟩
 have xu : Ext s2 u := by rw [hu]; exact (Ext.refl s2).new _
 have su : Cc u 1 (.slice (some ⟨s2.nx, 0, none⟩) 2 2) = some ([wCy, V4].map strOf) := by
  show u.rd s2.nx 0 2 = _
  have g : u.get s2.nx = some (.cells ([wCy, V4].map strOf) 9 true) := by rw [hu, A8.Af, if_pos rfl]
  rw [Eb (o := 0) (n := 2) g (Nat.le_refl 2)]; rfl
 have len1 := Jc false L
 have lenb := RV L
 obtain ⟨v3, s3, b3, w3, L3, f3, x3⟩ := (La.frame xu.nx fun b e => xu.get b (La.lt e)).app (s0 := s1) (x2.trans xu) fa su (Nat.succ_pos _) (by show _ + 2 < _; omega)
 have L3 : DF s3 b3 v3 (F5 L) := L3
 have hk3 := (hk.ext x1).ext x3
 obtain ⟨vd, s4, F, d31, O, rd⟩ := k31 m hk3 L3.rdS (by omega) (by omega)
 rw [WY (V5 L)] at rd
 have b6 := iD L
 obtain ⟨H, hH⟩ : ∃ H, H = CY [] (F5 L) := ⟨_, rfl⟩
 rw [← hH] at O rd b6
 have B4 := O.hb
 obtain ⟨tag, o, cb, pb, lb, eb, E, lv, ev, hB⟩ := O.hb
 obtain ⟨vn, s5, d33, x5, r5⟩ := k33 m (by omega) hB
 have x15 := (x3.trans O.x).trans x5
 have Sw : SwB s5 vd vn H (nms (run H).comps) := ⟨O.k.ext x5, b6, rd.ext x5, r5, rfl⟩
 obtain ⟨s', e⟩ := ZE (m := m) (by omega) Sw (A4.ext x15) (A5.ext x15) (B4.ext x5)
 have nl := Sw.len
 refine ⟨s', ?_⟩
 rw [hu] at w3
 have c4 : ¬ ((nms (run H).comps).length : Int) < 4 := by omega
 have e0 : (s0.new (.cells [qV a0, qV a1, qV a2] 60 true)).nx = s0.nx + 1 := rfl
 have lc : (Value.string ⟨#[110, 101, 119, 32, 99, 121]⟩) = .string (ofL wCy) := rfl
 have ld : (Value.string ⟨#[110, 101, 119, 32, 100, 97, 110]⟩) = .string (ofL V4) := rfl
 rw [Au 6 c6 rfl, f6_eq, h1, h2]
 simp only [← hs1, d32, bind_ok, lc, ld, iG, Ad, BD, MF, w3, Aq, d31, CP, List.getElem?_cons_zero, List.getElem?_cons_succ, d33, r5.len, Et, decide_eq_false c4, Ar, Dv, Eu, e0]
 exact e
end Go.Im

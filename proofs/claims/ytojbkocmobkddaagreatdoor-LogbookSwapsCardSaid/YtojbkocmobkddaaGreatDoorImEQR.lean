/- The equations of the functions that range over a function, on the ideal machine: printed by a program of this session (wip/tools/shalr.py), reckoned by the kernel. -/
import Derived.Test.YtojbkocmobkddaaGreatDoorImA2
import Derived.Test.YtojbkocmobkddaaGreatDoorImE0
set_option linter.all false
set_option maxRecDepth 100000
set_option linter.unusedVariables false
namespace Go.Im
noncomputable section
def f29_ps : List Nat := [15, 16]
def kE : AA := (.seq (.reg [⟨some 4, .p (.mv (.tmp 15)), none⟩])
 (.reg [⟨some 5, .a (.alloc 141 [.int .i64 0, .int .i64 0]), none⟩,
  ⟨none, .w (.st 2 (.tmp 5) (.tmp 16)), none⟩]))
def gI : AA := (.block 1 (.seq (.DI [(⟨some 17, .r (.ld (.tmp 1)), none⟩, [1]),
 (⟨some 18, .p (.BI (.tmp 17)), none⟩, [17]),
 (⟨some 19, .p (.Ac 0 (.tmp 18)), none⟩, [18]),
 (⟨some 20, .r (.ld (.tmp 19)), none⟩, [19]),
 (⟨some 21, .p (.BI (.tmp 20)), none⟩, [20]),
 (⟨some 22, .p (.Ac 0 (.tmp 21)), none⟩, [21]),
 (⟨some 23, .r (.ld (.tmp 22)), none⟩, [22]),
 (⟨some 24, .p (.Dl 2 1 (.tmp 5) (.const (.int .i64 0))), none⟩, [5]),
 (⟨some 25, .r (.ld (.tmp 24)), none⟩, [24]),
 (⟨some 26, .p (.CG 21 (.tmp 23) (.tmp 25)), none⟩, [23, 25]),
 (⟨some 27, .r (.ldN 21 (.tmp 26)), none⟩, [26]),
 (⟨some 28, .r (.ld (.tmp 1)), none⟩, [1]),
 (⟨some 29, .p (.BI (.tmp 28)), none⟩, [28]),
 (⟨some 30, .p (.Ac 0 (.tmp 29)), none⟩, [29]),
 (⟨some 31, .r (.ld (.tmp 30)), none⟩, [30]),
 (⟨some 32, .p (.BI (.tmp 31)), none⟩, [31]),
 (⟨some 33, .p (.Ac 0 (.tmp 32)), none⟩, [32]),
 (⟨some 34, .r (.ld (.tmp 33)), none⟩, [33]),
 (⟨some 35, .p (.Dl 2 1 (.tmp 5) (.const (.int .i64 1))), none⟩, [5]),
 (⟨some 36, .r (.ld (.tmp 35)), none⟩, [35]),
 (⟨some 37, .p (.CG 21 (.tmp 34) (.tmp 36)), none⟩, [34, 36]),
 (⟨some 38, .r (.ldN 21 (.tmp 37)), none⟩, [37]),
 (⟨some 6, .a (.alloc 120 [.string ⟨#[]⟩, .int .i64 0, .int .i64 0, .int .i64 0, .int .i64 0, .int .i64 0, .int .i64 0, .int .i64 0, .int .i64 0, .int .i64 0, .int .i64 0, .int .i64 0, .int .i64 0, .bool false, .bool false, .bool false, .bool false, .bool false, .bool false, .bool false, .bool false]), none⟩, []),
 (⟨some 7, .a (.alloc 120 [.string ⟨#[]⟩, .int .i64 0, .int .i64 0, .int .i64 0, .int .i64 0, .int .i64 0, .int .i64 0, .int .i64 0, .int .i64 0, .int .i64 0, .int .i64 0, .int .i64 0, .int .i64 0, .bool false, .bool false, .bool false, .bool false, .bool false, .bool false, .bool false, .bool false]), none⟩, []),
 (⟨none, .w (.st 21 (.tmp 6) (.tmp 27)), none⟩, [6, 27]),
 (⟨none, .w (.st 21 (.tmp 7) (.tmp 38)), none⟩, [7, 38])] [(11, [24]), (14, [24]), (17, [24]), (19, [24]), (21, [24])])
 (.DI [(⟨some 39, .r (.ld (.tmp 3)), none⟩, [3]),
  (⟨some 40, .p (.Ac 0 (.tmp 6)), none⟩, [6]),
  (⟨some 41, .r (.ld (.tmp 40)), none⟩, [40]),
  (⟨some 42, .p (.Ac 0 (.tmp 7)), none⟩, [7]),
  (⟨some 43, .r (.ld (.tmp 42)), none⟩, [42]),
  (⟨some 44, .r (.ld (.global 0)), none⟩, []),
  (⟨some 45, .p (.mv (.tmp 4)), none⟩, [4]),
  (⟨some 46, .p (.CG 1 (.tmp 44) (.tmp 45)), none⟩, [44, 45]),
  (⟨some 47, .r (.ld (.tmp 46)), none⟩, [46]),
  (⟨some 48, .a (.Dy 9 [.string ⟨#[]⟩] 4 [(0, 1, (.const (.string ⟨#[115, 119, 97, 112]⟩))), (1, 1, (.tmp 41)), (2, 1, (.tmp 43)), (3, 1, (.tmp 47))]), none⟩, [41, 43, 47]),
  (⟨some 49, .w (.call (.func 67) [(.tmp 48), (.const (.string ⟨#[32]⟩))]), none⟩, [48]),
  (⟨some 50, .a (.Dy 9 [.string ⟨#[]⟩] 1 [(0, 1, (.tmp 49))]), none⟩, [49]),
  (⟨some 51, .w (.app 9 1 16 (.tmp 39) (.tmp 50)), none⟩, [39, 50]),
  (⟨none, .w (.st 1 (.tmp 3) (.tmp 51)), none⟩, [3, 51])] [(0, [10])])))
def kF (a1 a2 a3 a10 a11 a12 a13 a14 : Value) : Env := (Tr.set (Tr.set (Tr.set (Tr.set (Tr.set (Tr.set (Tr.set (Tr.set .e 1 a1) 2 a2) 3 a3) 10 a10) 11 a11) 12 a12) 13 a13) 14 a14)
end
noncomputable section
def Iw : List Nat := [12, 13]
def GV : AA := .skip
def EI : AA := (.block 1 (.reg [⟨some 14, .r (.ld (.tmp 3)), none⟩,
 ⟨some 15, .p (.bin .add (.tmp 14) (.const (.int .i64 1))), none⟩,
 ⟨none, .w (.st 1 (.tmp 3) (.tmp 15)), none⟩]))
def EW (a0 a2 a3 a4 a5 a6 a7 a8 a9 a10 a11 : Value) : Env := (Tr.set (Tr.set (Tr.set (Tr.set (Tr.set (Tr.set (Tr.set (Tr.set (Tr.set (Tr.set (Tr.set .e 0 a0) 2 a2) 3 a3) 4 a4) 5 a5) 6 a6) 7 a7) 8 a8) 9 a9) 10 a10) 11 a11)
def gJ (self : Self) (N : Nat) : Kt (Value × A8) := (AO 0 (AQ (fun env s => exec AB self N (.seq (.reg [⟨some 16, .r (.ld (.tmp 3)), none⟩,
 ⟨some 2, .p (.mv (.tmp 16)), none⟩])
 .ret) (Env.keep env [3]) s (AP c30)) (AP c30)))
end
theorem f30_eq (self : Self) (N : Nat) (v0 : Value) (s : A8) : EO AB self N c30 [v0] s = (R.bind (Aw 11 (wSt (s.new (.cells [.int .i64 0] 3 true)) 1 (.int .i64 0) (ptrTo s.nx))) fun r1 => (R.bind (self (.fn 51) [v0] r1.2) fun r2 => (R.bind (obR 21 (unV .not r2.1) (okS r2.2)) fun r3 => (Bl (R.bind (obR 21 (Ak AB v0) (okS r3.2)) fun r4 => (R.bind (obR 21 (AZ 0 r4.1) (okS r4.2)) fun r5 => (R.bind (obR 22 (rLd r5.2 r5.1) (okS r5.2)) fun r6 => (R.bind (self (.fn 66) [r6.1] r6.2) fun r7 => (R.bind (X0 self [.func (.yield r7.2.nx) ⟨[]⟩ ⟨[]⟩] (r7.2.new (.loop .ready none (EW v0 (.int .i64 0) (ptrTo s.nx) v0 r2.1 r3.1 v0 r4.1 r5.1 r6.1 r7.1) Iw GV EI)) r7.1) fun r => endLoop (gJ self N) (EW v0 (.int .i64 0) (ptrTo s.nx) v0 r2.1 r3.1 v0 r4.1 r5.1 r6.1 r7.1) r.2 r7.2.nx (r.2.get r7.2.nx)))))) (R.bind (obR 22 (rLd r3.2 (ptrTo s.nx)) (okS r3.2)) fun r8 => (.ok (r8.1, r8.2))) (some r3.1))))) := by kernel_rfl
theorem gK (self : Self) (N : Nat) (a0 a2 a3 a4 a5 a6 a7 a8 a9 a10 a11 : Value) (s : A8) : gJ self N .normal (EW a0 a2 a3 a4 a5 a6 a7 a8 a9 a10 a11) s = (R.bind (obR 22 (rLd s a3) (okS s)) fun r9 => (.ok (r9.1, r9.2))) := by kernel_rfl
noncomputable def Ur (a0 a2 a3 a4 a5 a6 a7 a8 a9 a10 a11 a12 a13 : Value) : Env := (Tr.set (Tr.set (Tr.set (Tr.set (Tr.set (Tr.set (Tr.set (Tr.set (Tr.set (Tr.set (Tr.set (Tr.set (Tr.set .e 0 a0) 2 a2) 3 a3) 4 a4) 5 a5) 6 a6) 7 a7) 8 a8) 9 a9) 10 a10) 11 a11) 12 a12) 13 a13)
theorem gQ (self : Self) (N l : Nat) (a0 a2 a3 a4 a5 a6 a7 a8 a9 a10 a11 : Value) (b12 b13 : Value) (s : A8) : obR 38 (IW (EW a0 a2 a3 a4 a5 a6 a7 a8 a9 a10 a11) Iw [b12, b13]) (fun Nu => exec AB self N GV Nu s (AQ (fun JC s2 => Gg AB self N l EI JC s2 (s2.get l)) (fun _ _ _ => .bad 39))) = (Gg AB self N l EI (Ur a0 a2 a3 a4 a5 a6 a7 a8 a9 a10 a11 b12 b13) s (s.get l)) := by kernel_rfl
theorem gU (self : Self) (N l : Nat) (a0 a2 a3 a4 a5 a6 a7 a8 a9 a10 a11 a12 a13 : Value) (s : A8) : exec AB self N EI (Ur a0 a2 a3 a4 a5 a6 a7 a8 a9 a10 a11 a12 a13) s (fun e _ s3 => endRound l e s3 (s3.get l)) = (R.bind (obR 22 (rLd s a3) (okS s)) fun r10 => (R.bind (obR 21 (Az .add r10.1 (.int .i64 1)) (okS r10.2)) fun r11 => (R.bind (Aw 11 (wSt r11.2 1 r11.1 a3)) fun r12 => (endRound l .normal r12.2 (r12.2.get l))))) := by kernel_rfl
end Go.Im

import Derived.Test.YthidglhhfdjhhaaGreatR0
set_option linter.unusedVariables false
set_option maxRecDepth 100000
namespace Go.Wz
open Go
-- f56
noncomputable def F56 (call : CallT) (N : Nat) (a0 : Value) (a1 : Value) (a2 : Value) (h : H) : Option (SV × H) :=
 ((ibin BinOp.geq a0 a1).bind (fun v3 =>
 ((gsel v3 true ((ibin BinOp.leq a0 a2).bind (fun v4 =>
 (some (v4, h)))) (some ((Value.bool false), h))).bind (fun r5 =>
 (some ((SV.one r5.1), r5.2))))))
theorem F56_eq (call : CallT) (N : Nat) (a0 : Value) (a1 : Value) (a2 : Value) (h : H) : execF Proofs.Tryz.prog call hints N 56 [(SV.one a0), (SV.one a1), (SV.one a2)] h = F56 call N a0 a1 a2 h := by kernel_rfl
-- f61
noncomputable def F61 (call : CallT) (N : Nat) (a0 : Value) (a1 : Value) (a2 : Value) (h : H) : Option (SV × H) :=
 ((ibin BinOp.geq a0 a1).bind (fun v3 =>
 ((gsel v3 true ((ibin BinOp.leq a0 a2).bind (fun v4 =>
 (some (v4, h)))) (some ((Value.bool false), h))).bind (fun r5 =>
 (some ((SV.one r5.1), r5.2))))))
theorem F61_eq (call : CallT) (N : Nat) (a0 : Value) (a1 : Value) (a2 : Value) (h : H) : execF Proofs.Tryz.prog call hints N 61 [(SV.one a0), (SV.one a1), (SV.one a2)] h = F61 call N a0 a1 a2 h := by kernel_rfl
-- f105
noncomputable def LP105_0 (call : CallT) (N : Nat) : Nat → List SV → H → Option X := loopIt (fun st h k => exec Proofs.Tryz.prog call N (some Proofs.Tryz.f105.results) (((Proofs.Tryz.f105).body.getD .skip).l2.l1.l2.l1).l1 (hl1 (hl1 (hl2 (hl1 (hl2 (hints 105)))))) st h k) [(0, Sh.one), (1, Sh.one), (7, Sh.one), (8, Sh.one)] (Join.mk [] [(0, [])]) 19
noncomputable def B105_0 (call : CallT) (N : Nat) (go : List SV → H → Option X) (a6 : Value) (a7 : Value) (a8 : Value) (a9 : Value) (h : H) : Option X :=
 ((ibin BinOp.lss a9 a8).bind (fun v10 =>
 (condV v10 ((idxS 1 a6 a9).bind (fun v11 =>
 ((pld h v11).bind (fun v12 =>
 ((callV call a7 [(SV.one v12)] h).bind (fun r13 =>
 (un1 r13.1 (fun v14 =>
 (condV v14 (some ((Out.ret (SV.one a9)), ([], r13.2))) ((ibin BinOp.add a9 (I 1)).bind (fun v15 =>
 (go [(SV.one a6), (SV.one a7), (SV.one a8), (SV.one v15)] r13.2)))))))))))) (some ((Out.exit 0), ([], h))))))
theorem LP105_0_succ (call : CallT) (N m : Nat) (a6 : Value) (a7 : Value) (a8 : Value) (a9 : Value) (h : H) : LP105_0 call N (m + 1) [(SV.one a6), (SV.one a7), (SV.one a8), (SV.one a9)] h = B105_0 call N (LP105_0 call N m) a6 a7 a8 a9 h := by kernel_rfl
noncomputable def F105 (call : CallT) (N : Nat) (a0 : Value) (a1 : Value) (h : H) : Option (SV × H) :=
 ((lenS a0).bind (fun v2 =>
 ((LP105_0 call N N [(SV.one a0), (SV.one a1), (SV.one v2), (SV.one (I 0))] h).bind (fun r3 =>
 (outc r3.1 (unNil r3.2.1 (some ((SV.one (I (-1))), r3.2.2))) (fun i4 =>
 (ifN i4 0 (unNil r3.2.1 (some ((SV.one (I (-1))), r3.2.2))) none)) (fun x5 =>
 (some (x5, r3.2.2))))))))
theorem F105_eq (call : CallT) (N : Nat) (a0 : Value) (a1 : Value) (h : H) : execF Proofs.Tryz.prog call hints N 105 [(SV.one a0), (SV.one a1)] h = F105 call N a0 a1 h := by kernel_rfl
end Go.Wz

import Derived.Test.YthidglhhfdjhhaaGreatR0
set_option linter.unusedVariables false
set_option maxRecDepth 100000
namespace Go.Wz
open Go
-- f56
noncomputable def F56 (call : CallT) (N : Nat) (a0 : Value) (a1 : Value) (a2 : Value) (h : H) : Option (SV × H) :=
 ((ibin BinOp.geq a0 a1).bind (fun v3 =>
 ((gsel v3 true ((ibin BinOp.leq a0 a2).bind (fun v4 =>
 (some (v4, h)))) (some ((Value.bool false), h))).bind (fun r5 =>
 (some ((SV.one r5.1), r5.2))))))
theorem F56_eq (call : CallT) (N : Nat) (a0 : Value) (a1 : Value) (a2 : Value) (h : H) : execF Proofs.Tryz.prog call hints N 56 [(SV.one a0), (SV.one a1), (SV.one a2)] h = F56 call N a0 a1 a2 h := by kernel_rfl
-- f61
noncomputable def F61 (call : CallT) (N : Nat) (a0 : Value) (a1 : Value) (a2 : Value) (h : H) : Option (SV × H) :=
 ((ibin BinOp.geq a0 a1).bind (fun v3 =>
 ((gsel v3 true ((ibin BinOp.leq a0 a2).bind (fun v4 =>
 (some (v4, h)))) (some ((Value.bool false), h))).bind (fun r5 =>
 (some ((SV.one r5.1), r5.2))))))
theorem F61_eq (call : CallT) (N : Nat) (a0 : Value) (a1 : Value) (a2 : Value) (h : H) : execF Proofs.Tryz.prog call hints N 61 [(SV.one a0), (SV.one a1), (SV.one a2)] h = F61 call N a0 a1 a2 h := by kernel_rfl
-- f40
noncomputable def LP40_0 (call : CallT) (N : Nat) : Nat → List SV → H → Option X := loopIt (fun st h k => exec Proofs.Tryz.prog call N (some Proofs.Tryz.f40.results) (((Proofs.Tryz.f40).body.getD .skip).l2.l2.l1.l2.l1).l1 (hl1 (hl1 (hl2 (hl1 (hl2 (hl2 (hints 40))))))) st h k) [(2, Sh.one), (3, Sh.one), (5, Sh.one), (6, Sh.one)] (Join.mk [] [(0, [(2, Sh.one), (3, Sh.one), (5, Sh.one)])]) 31
noncomputable def B40_0 (call : CallT) (N : Nat) (go : List SV → H → Option X) (a24 : Value) (a25 : Value) (a26 : Value) (a27 : Value) (h : H) : Option X :=
 ((ibin BinOp.lss a27 (I 12)).bind (fun v28 =>
 (condV v28 ((padd 2 a25).bind (fun v29 =>
 ((pld h v29).bind (fun v30 =>
 ((cvt IntKind.u64 a27).bind (fun v31 =>
 ((ibin BinOp.shr v30 v31).bind (fun v32 =>
 ((ibin BinOp.and v32 (I 1)).bind (fun v33 =>
 ((ibin BinOp.add a26 v33).bind (fun v34 =>
 ((ibin BinOp.add a27 (I 1)).bind (fun v35 =>
 (go [(SV.one a24), (SV.one a25), (SV.one v34), (SV.one v35)] h))))))))))))))) (some ((Out.exit 0), ([(SV.one a24), (SV.one a25), (SV.one a26)], h))))))
theorem LP40_0_succ (call : CallT) (N m : Nat) (a24 : Value) (a25 : Value) (a26 : Value) (a27 : Value) (h : H) : LP40_0 call N (m + 1) [(SV.one a24), (SV.one a25), (SV.one a26), (SV.one a27)] h = B40_0 call N (LP40_0 call N m) a24 a25 a26 a27 h := by kernel_rfl
noncomputable def F40 (call : CallT) (N : Nat) (as0 : List Value) (as1 : List Value) (h : H) : Option (SV × H) :=
 ((LP40_0 call N N [(SV.one (ptr h.next 0)), (SV.one (ptr (h.next + 1) 0)), (SV.one (I 0)), (SV.one (I 0))] (H.new (H.new h (Blk.cells as0 81 true)) (Blk.cells as1 81 true))).bind (fun r2 =>
 (outc r2.1 (unNil r2.2.1 none) (fun i3 =>
 (ifN i3 0 (unConD r2.2.1 (fun x4 l5 =>
 (un1 x4 (fun v6 =>
 (unConD l5 (fun x7 l8 =>
 (un1 x7 (fun v9 =>
 (unConD l8 (fun x10 l11 =>
 (un1 x10 (fun v12 =>
 (unNil l11 ((ibin BinOp.geq v12 (I 3)).bind (fun v13 =>
 ((gsel v13 true ((padd 2 v9).bind (fun v14 =>
 ((pld r2.2.2 v14).bind (fun v15 =>
 ((padd 2 v6).bind (fun v16 =>
 ((pld r2.2.2 v16).bind (fun v17 =>
 ((ibin BinOp.and v15 v17).bind (fun v18 =>
 ((padd 2 v9).bind (fun v19 =>
 ((pld r2.2.2 v19).bind (fun v20 =>
 ((ibin BinOp.eql v18 v20).bind (fun v21 =>
 (some (v21, r2.2.2)))))))))))))))))) (some ((Value.bool false), r2.2.2))).bind (fun r22 =>
 (some ((SV.one r22.1), r22.2))))))))))))))))))) none)) (fun x23 =>
 (some (x23, r2.2.2))))))
theorem F40_eq (call : CallT) (N : Nat) (as0 : List Value) (as1 : List Value) (h : H) : execF Proofs.Tryz.prog call hints N 40 [(SV.agg as0), (SV.agg as1)] h = F40 call N as0 as1 h := by kernel_rfl
-- f141
noncomputable def F141 (call : CallT) (N : Nat) (a0 : Value) (a1 : Value) (a2 : Value) (h : H) : Option (SV × H) :=
 ((nilC a0).bind (fun v3 =>
 ((padd 0 v3).bind (fun v4 =>
 ((pld h v4).bind (fun v5 =>
 ((idxS 3 v5 a2).bind (fun v6 =>
 ((padd 2 v6).bind (fun v7 =>
 ((pld h v7).bind (fun v8 =>
 ((cvt IntKind.u64 v8).bind (fun v9 =>
 ((call (Fn.func 203) [(SV.one v9)] h).bind (fun r10 =>
 (un1 r10.1 (fun v11 =>
 ((ibin BinOp.geq v11 (I 3)).bind (fun v12 =>
 ((gsel v12 true ((nilC a0).bind (fun v13 =>
 ((padd 0 v13).bind (fun v14 =>
 ((pld r10.2 v14).bind (fun v15 =>
 ((idxS 3 v15 a1).bind (fun v16 =>
 ((padd 2 v16).bind (fun v17 =>
 ((pld r10.2 v17).bind (fun v18 =>
 ((ibin BinOp.and v18 v8).bind (fun v19 =>
 ((ibin BinOp.eql v19 v8).bind (fun v20 =>
 (some (v20, r10.2)))))))))))))))))) (some ((Value.bool false), r10.2))).bind (fun r21 =>
 (some ((SV.one r21.1), r21.2))))))))))))))))))))))))
theorem F141_eq (call : CallT) (N : Nat) (a0 : Value) (a1 : Value) (a2 : Value) (h : H) : execF Proofs.Tryz.prog call hints N 141 [(SV.one a0), (SV.one a1), (SV.one a2)] h = F141 call N a0 a1 a2 h := by kernel_rfl
-- f140
noncomputable def F140 (call : CallT) (N : Nat) (a0 : Value) (a1 : Value) (a2 : Value) (h : H) : Option (SV × H) :=
 ((pld h a1).bind (fun v3 =>
 ((pld h a2).bind (fun v4 =>
 ((call (Fn.func 141) [(SV.one v3), (SV.one v4), (SV.one a0)] h).bind (fun r5 =>
 (un1 r5.1 (fun v6 =>
 (some ((SV.one v6), r5.2))))))))))
theorem F140_eq (call : CallT) (N : Nat) (a0 : Value) (a1 : Value) (a2 : Value) (h : H) : execF Proofs.Tryz.prog call hints N 140 [(SV.one a0), (SV.one a1), (SV.one a2)] h = F140 call N a0 a1 a2 h := by kernel_rfl
-- f142
noncomputable def F142 (call : CallT) (N : Nat) (a0 : Value) (a1 : Value) (a2 : Value) (h : H) : Option (SV × H) :=
 ((pld h a1).bind (fun v3 =>
 ((pld h a2).bind (fun v4 =>
 ((call (Fn.func 141) [(SV.one v3), (SV.one a0), (SV.one v4)] h).bind (fun r5 =>
 (un1 r5.1 (fun v6 =>
 (some ((SV.one v6), r5.2))))))))))
theorem F142_eq (call : CallT) (N : Nat) (a0 : Value) (a1 : Value) (a2 : Value) (h : H) : execF Proofs.Tryz.prog call hints N 142 [(SV.one a0), (SV.one a1), (SV.one a2)] h = F142 call N a0 a1 a2 h := by kernel_rfl
-- f144
noncomputable def F144 (call : CallT) (N : Nat) (a0 : Value) (a1 : Value) (h : H) : Option (SV × H) :=
 ((pld h a1).bind (fun v2 =>
 ((ibin BinOp.eql a0 v2).bind (fun v3 =>
 (some ((SV.one v3), h))))))
theorem F144_eq (call : CallT) (N : Nat) (a0 : Value) (a1 : Value) (h : H) : execF Proofs.Tryz.prog call hints N 144 [(SV.one a0), (SV.one a1)] h = F144 call N a0 a1 h := by kernel_rfl
-- f139
noncomputable def LP139_0 (call : CallT) (N : Nat) : Nat → List SV → H → Option X := loopIt (fun st h k => exec Proofs.Tryz.prog call N (some Proofs.Tryz.f139.results) (((Proofs.Tryz.f139).body.getD .skip).l2.l1.l2.l1).l1 (hl1 (hl1 (hl2 (hl1 (hl2 (hints 139)))))) st h k) [(1, Sh.one), (4, Sh.one), (5, Sh.one), (8, Sh.one), (9, Sh.one), (10, Sh.one)] (Join.mk [] [(0, [(4, Sh.one), (5, Sh.one)])]) 23
noncomputable def B139_0 (call : CallT) (N : Nat) (go : List SV → H → Option X) (a12 : Value) (a13 : Value) (a14 : Value) (a15 : Value) (a16 : Value) (a17 : Value) (h : H) : Option X :=
 ((ibin BinOp.lss a17 a16).bind (fun v18 =>
 (condV v18 (((idxS 1 a15 a17).bind (fun v19 =>
 ((pld h v19).bind (fun v20 =>
 ((callV call a12 [(SV.one v20)] h).bind (fun r21 =>
 (un1 r21.1 (fun v22 =>
 ((un UnOp.not v22).bind (fun v23 =>
 (condV v23 (some (Out.normal, ([(SV.one a12), (SV.one a13), (SV.one a14), (SV.one a15), (SV.one a16), (SV.one a17)], r21.2))) (condV a14 (some ((Out.ret (SV.tup [(SV.one (I 0)), (SV.one (Value.bool false))])), ([], r21.2))) (some (Out.normal, ([(SV.one a12), (SV.one v20), (SV.one (Value.bool true)), (SV.one a15), (SV.one a16), (SV.one a17)], r21.2))))))))))))))).bind (fun r24 =>
 (outc r24.1 (unConD r24.2.1 (fun x25 l26 =>
 (un1 x25 (fun v27 =>
 (unConD l26 (fun x28 l29 =>
 (un1 x28 (fun v30 =>
 (unConD l29 (fun x31 l32 =>
 (un1 x31 (fun v33 =>
 (unConD l32 (fun x34 l35 =>
 (un1 x34 (fun v36 =>
 (unConD l35 (fun x37 l38 =>
 (un1 x37 (fun v39 =>
 (unConD l38 (fun x40 l41 =>
 (un1 x40 (fun v42 =>
 (unNil l41 ((ibin BinOp.add v42 (I 1)).bind (fun v43 =>
 (go [(SV.one v27), (SV.one v30), (SV.one v33), (SV.one v36), (SV.one v39), (SV.one v43)] r24.2.2)))))))))))))))))))))))))))) (fun i44 =>
 none) (fun x45 =>
 (some ((Out.ret x45), ([], r24.2.2))))))) (some ((Out.exit 0), ([(SV.one a13), (SV.one a14)], h))))))
theorem LP139_0_succ (call : CallT) (N m : Nat) (a12 : Value) (a13 : Value) (a14 : Value) (a15 : Value) (a16 : Value) (a17 : Value) (h : H) : LP139_0 call N (m + 1) [(SV.one a12), (SV.one a13), (SV.one a14), (SV.one a15), (SV.one a16), (SV.one a17)] h = B139_0 call N (LP139_0 call N m) a12 a13 a14 a15 a16 a17 h := by kernel_rfl
noncomputable def F139 (call : CallT) (N : Nat) (a0 : Value) (a1 : Value) (h : H) : Option (SV × H) :=
 ((lenS a0).bind (fun v2 =>
 ((LP139_0 call N N [(SV.one a1), (SV.one (I 0)), (SV.one (Value.bool false)), (SV.one a0), (SV.one v2), (SV.one (I 0))] h).bind (fun r3 =>
 (outc r3.1 (unNil r3.2.1 none) (fun i4 =>
 (ifN i4 0 (unConD r3.2.1 (fun x5 l6 =>
 (un1 x5 (fun v7 =>
 (unConD l6 (fun x8 l9 =>
 (un1 x8 (fun v10 =>
 (unNil l9 (some ((SV.tup [(SV.one v7), (SV.one v10)]), r3.2.2))))))))))) none)) (fun x11 =>
 (some (x11, r3.2.2))))))))
theorem F139_eq (call : CallT) (N : Nat) (a0 : Value) (a1 : Value) (h : H) : execF Proofs.Tryz.prog call hints N 139 [(SV.one a0), (SV.one a1)] h = F139 call N a0 a1 h := by kernel_rfl
-- f143
noncomputable def LP143_0 (call : CallT) (N : Nat) : Nat → List SV → H → Option X := loopIt (fun st h k => exec Proofs.Tryz.prog call N (some Proofs.Tryz.f143.results) (((Proofs.Tryz.f143).body.getD .skip).l2.l2.l2.l1.l2.l1).l1 (hl1 (hl1 (hl2 (hl1 (hl2 (hl2 (hl2 (hints 143)))))))) st h k) [(0, Sh.one), (1, Sh.one), (5, Sh.one), (6, Sh.one)] (Join.mk [] [(0, [(0, Sh.one), (5, Sh.one)])]) 42
noncomputable def B143_0 (call : CallT) (N : Nat) (go : List SV → H → Option X) (a18 : Value) (a19 : Value) (a20 : Value) (a21 : Value) (h : H) : Option X :=
 ((lenS a18).bind (fun v22 =>
 ((ibin BinOp.lss a21 v22).bind (fun v23 =>
 (condV v23 (((idxS 1 a18 a21).bind (fun v24 =>
 ((pld h v24).bind (fun v25 =>
 ((callV call a19 [(SV.one v25)] h).bind (fun r26 =>
 (un1 r26.1 (fun v27 =>
 ((un UnOp.not v27).bind (fun v28 =>
 ((condV v28 ((idxS 1 a18 a20).bind (fun v29 =>
 ((pst r26.2 v25 v29).bind (fun h30 =>
 ((ibin BinOp.add a20 (I 1)).bind (fun v31 =>
 (some (Out.normal, ([(SV.one a18), (SV.one a19), (SV.one v31), (SV.one a21)], h30))))))))) (some (Out.normal, ([(SV.one a18), (SV.one a19), (SV.one a20), (SV.one a21)], r26.2)))).bind (fun r32 =>
 (outc r32.1 (unConD r32.2.1 (fun x33 l34 =>
 (un1 x33 (fun v35 =>
 (unConD l34 (fun x36 l37 =>
 (un1 x36 (fun v38 =>
 (unConD l37 (fun x39 l40 =>
 (un1 x39 (fun v41 =>
 (unConD l40 (fun x42 l43 =>
 (un1 x42 (fun v44 =>
 (unNil l43 (some (Out.normal, ([(SV.one v35), (SV.one v38), (SV.one v41), (SV.one v44)], r32.2.2)))))))))))))))))))) (fun i45 =>
 none) (fun x46 =>
 (some ((Out.ret x46), ([], r32.2.2))))))))))))))))).bind (fun r47 =>
 (outc r47.1 (unConD r47.2.1 (fun x48 l49 =>
 (un1 x48 (fun v50 =>
 (unConD l49 (fun x51 l52 =>
 (un1 x51 (fun v53 =>
 (unConD l52 (fun x54 l55 =>
 (un1 x54 (fun v56 =>
 (unConD l55 (fun x57 l58 =>
 (un1 x57 (fun v59 =>
 (unNil l58 ((ibin BinOp.add v59 (I 1)).bind (fun v60 =>
 (go [(SV.one v50), (SV.one v53), (SV.one v56), (SV.one v60)] r47.2.2)))))))))))))))))))) (fun i61 =>
 none) (fun x62 =>
 (some ((Out.ret x62), ([], r47.2.2))))))) (some ((Out.exit 0), ([(SV.one a18), (SV.one a20)], h))))))))
theorem LP143_0_succ (call : CallT) (N m : Nat) (a18 : Value) (a19 : Value) (a20 : Value) (a21 : Value) (h : H) : LP143_0 call N (m + 1) [(SV.one a18), (SV.one a19), (SV.one a20), (SV.one a21)] h = B143_0 call N (LP143_0 call N m) a18 a19 a20 a21 h := by kernel_rfl
noncomputable def F143 (call : CallT) (N : Nat) (a0 : Value) (a1 : Value) (h : H) : Option (SV × H) :=
 ((call (Fn.func 105) [(SV.one a0), (SV.one a1)] h).bind (fun r2 =>
 (un1 r2.1 (fun v3 =>
 ((ibin BinOp.eql v3 (I (-1))).bind (fun v4 =>
 (condV v4 (some ((SV.one a0), r2.2)) ((ibin BinOp.add v3 (I 1)).bind (fun v5 =>
 ((LP143_0 call N N [(SV.one a0), (SV.one a1), (SV.one v3), (SV.one v5)] r2.2).bind (fun r6 =>
 (outc r6.1 (unNil r6.2.1 none) (fun i7 =>
 (ifN i7 0 (unConD r6.2.1 (fun x8 l9 =>
 (un1 x8 (fun v10 =>
 (unConD l9 (fun x11 l12 =>
 (un1 x11 (fun v13 =>
 (unNil l12 ((cutS 1 (some v13) none v10).bind (fun v14 =>
 ((H.clearS r6.2.2 [(I 0)] v14).bind (fun h15 =>
 ((cutS 1 none (some v13) v10).bind (fun v16 =>
 (some ((SV.one v16), h15))))))))))))))))) none)) (fun x17 =>
 (some (x17, r6.2.2)))))))))))))))
theorem F143_eq (call : CallT) (N : Nat) (a0 : Value) (a1 : Value) (h : H) : execF Proofs.Tryz.prog call hints N 143 [(SV.one a0), (SV.one a1)] h = F143 call N a0 a1 h := by kernel_rfl
-- f105
noncomputable def LP105_0 (call : CallT) (N : Nat) : Nat → List SV → H → Option X := loopIt (fun st h k => exec Proofs.Tryz.prog call N (some Proofs.Tryz.f105.results) (((Proofs.Tryz.f105).body.getD .skip).l2.l1.l2.l1).l1 (hl1 (hl1 (hl2 (hl1 (hl2 (hints 105)))))) st h k) [(0, Sh.one), (1, Sh.one), (7, Sh.one), (8, Sh.one)] (Join.mk [] [(0, [])]) 19
noncomputable def B105_0 (call : CallT) (N : Nat) (go : List SV → H → Option X) (a6 : Value) (a7 : Value) (a8 : Value) (a9 : Value) (h : H) : Option X :=
 ((ibin BinOp.lss a9 a8).bind (fun v10 =>
 (condV v10 ((idxS 1 a6 a9).bind (fun v11 =>
 ((pld h v11).bind (fun v12 =>
 ((callV call a7 [(SV.one v12)] h).bind (fun r13 =>
 (un1 r13.1 (fun v14 =>
 (condV v14 (some ((Out.ret (SV.one a9)), ([], r13.2))) ((ibin BinOp.add a9 (I 1)).bind (fun v15 =>
 (go [(SV.one a6), (SV.one a7), (SV.one a8), (SV.one v15)] r13.2)))))))))))) (some ((Out.exit 0), ([], h))))))
theorem LP105_0_succ (call : CallT) (N m : Nat) (a6 : Value) (a7 : Value) (a8 : Value) (a9 : Value) (h : H) : LP105_0 call N (m + 1) [(SV.one a6), (SV.one a7), (SV.one a8), (SV.one a9)] h = B105_0 call N (LP105_0 call N m) a6 a7 a8 a9 h := by kernel_rfl
noncomputable def F105 (call : CallT) (N : Nat) (a0 : Value) (a1 : Value) (h : H) : Option (SV × H) :=
 ((lenS a0).bind (fun v2 =>
 ((LP105_0 call N N [(SV.one a0), (SV.one a1), (SV.one v2), (SV.one (I 0))] h).bind (fun r3 =>
 (outc r3.1 (unNil r3.2.1 (some ((SV.one (I (-1))), r3.2.2))) (fun i4 =>
 (ifN i4 0 (unNil r3.2.1 (some ((SV.one (I (-1))), r3.2.2))) none)) (fun x5 =>
 (some (x5, r3.2.2))))))))
theorem F105_eq (call : CallT) (N : Nat) (a0 : Value) (a1 : Value) (h : H) : execF Proofs.Tryz.prog call hints N 105 [(SV.one a0), (SV.one a1)] h = F105 call N a0 a1 h := by kernel_rfl
-- f80
noncomputable def LP80_1 (call : CallT) (N : Nat) : Nat → List SV → H → Option X := loopIt (fun st h k => exec Proofs.Tryz.prog call N (some Proofs.Tryz.f80.results) (((Proofs.Tryz.f80).body.getD .skip).l2.l1.l2.l1.l1.l2.l2.l1.l1.l2.l2.l2.l2.l1.l2.l1).l1 (hl1 (hl1 (hl2 (hl1 (hl2 (hl2 (hl2 (hl2 (hl1 (hl1 (hl2 (hl2 (hl1 (hl1 (hl2 (hl1 (hl2 (hints 80)))))))))))))))))) st h k) [(1, Sh.one), (2, Sh.one), (6, Sh.one), (7, Sh.one), (49, Sh.one), (50, Sh.one), (51, Sh.one)] (Join.mk [] [(2, [(1, Sh.one), (2, Sh.one), (6, Sh.one), (7, Sh.one)])]) 84
noncomputable def B80_1 (call : CallT) (N : Nat) (go : List SV → H → Option X) (a99 : Value) (a100 : Value) (a101 : Value) (a102 : Value) (a103 : Value) (a104 : Value) (a105 : Value) (h : H) : Option X :=
 ((ibin BinOp.lss a105 a104).bind (fun v106 =>
 (condV v106 ((idxS 1 a103 a105).bind (fun v107 =>
 ((pld h v107).bind (fun v108 =>
 ((pst (H.new h (Blk.cells [(I 0)] 3 true)) v108 (ptr h.next 0)).bind (fun h109 =>
 (sameB a100 a100 ((pld (hideL [] h109) a100).bind (fun v110 =>
 ((pld (hideL [] h109) a100).bind (fun v111 =>
 ((nilC v111).bind (fun v112 =>
 ((padd 1 v112).bind (fun v113 =>
 ((idxP 1 3 v113 a105).bind (fun v114 =>
 ((pld (hideL [] h109) v114).bind (fun v115 =>
 ((bOf a100).bind (fun i116 =>
 ((call (Fn.func 143) [(SV.one v115), (SV.one (Value.func (Fn.func 144) (Array.mk []) (Array.mk [(ptr h.next 0)])))] (frzL [i116] (hideL [] h109))).bind (fun r117 =>
 (un1 r117.1 (fun v118 =>
 ((nilC v110).bind (fun v119 =>
 ((padd 1 v119).bind (fun v120 =>
 ((idxP 1 3 v120 a105).bind (fun v121 =>
 ((pst (frzL [] (hideL [] (thawL [i116] h109 r117.2))) v118 v121).bind (fun h122 =>
 ((ibin BinOp.add a105 (I 1)).bind (fun v123 =>
 (go [(SV.one a99), (SV.one a100), (SV.one a101), (SV.one a102), (SV.one a103), (SV.one a104), (SV.one v123)] (thawL [] (thawL [i116] h109 r117.2) h122))))))))))))))))))))))))))))))))))))) (some ((Out.exit 2), ([(SV.one a99), (SV.one a100), (SV.one a101), (SV.one a102)], h))))))
theorem LP80_1_succ (call : CallT) (N m : Nat) (a99 : Value) (a100 : Value) (a101 : Value) (a102 : Value) (a103 : Value) (a104 : Value) (a105 : Value) (h : H) : LP80_1 call N (m + 1) [(SV.one a99), (SV.one a100), (SV.one a101), (SV.one a102), (SV.one a103), (SV.one a104), (SV.one a105)] h = B80_1 call N (LP80_1 call N m) a99 a100 a101 a102 a103 a104 a105 h := by kernel_rfl
noncomputable def LP80_0 (call : CallT) (N : Nat) : Nat → List SV → H → Option X := loopIt (fun st h k => exec Proofs.Tryz.prog call N (some Proofs.Tryz.f80.results) (((Proofs.Tryz.f80).body.getD .skip).l2.l1.l2.l1).l1 (hl1 (hl1 (hl2 (hl1 (hl2 (hints 80)))))) st h k) [(1, Sh.one), (2, Sh.one), (17, Sh.one), (18, Sh.one), (19, Sh.one)] (Join.mk [] [(0, [])]) 84
noncomputable def B80_0 (call : CallT) (N : Nat) (go : List SV → H → Option X) (a11 : Value) (a12 : Value) (a13 : Value) (a14 : Value) (a15 : Value) (h : H) : Option X :=
 ((ibin BinOp.lss a15 a14).bind (fun v16 =>
 (condV v16 (((idxS 1 a13 a15).bind (fun v17 =>
 ((pld h v17).bind (fun v18 =>
 ((pst (H.new h (Blk.cells [(I 0)] 3 true)) v18 (ptr h.next 0)).bind (fun h19 =>
 ((pld h19 a12).bind (fun v20 =>
 ((nilC v20).bind (fun v21 =>
 ((padd 1 v21).bind (fun v22 =>
 ((idxP 1 3 v22 (I 2)).bind (fun v23 =>
 ((pld h19 v23).bind (fun v24 =>
 ((call (Fn.func 139) [(SV.one v24), (SV.one (Value.func (Fn.func 140) (Array.mk []) (Array.mk [a12, (ptr h.next 0)])))] h19).bind (fun r25 =>
 (unT r25.1 (fun l26 =>
 (unCons l26 (fun x27 l28 =>
 (un1 x27 (fun v29 =>
 (unCons l28 (fun x30 l31 =>
 (un1 x30 (fun v32 =>
 (unNil l31 ((pst (H.new r25.2 (Blk.cells [(I 0)] 3 true)) v29 (ptr r25.2.next 0)).bind (fun h33 =>
 ((un UnOp.not v32).bind (fun v34 =>
 (condV v34 (some (Out.normal, ([(SV.one a11), (SV.one a12), (SV.one a13), (SV.one a14), (SV.one a15)], h33))) ((pld h33 a12).bind (fun v35 =>
 ((nilC v35).bind (fun v36 =>
 ((padd 1 v36).bind (fun v37 =>
 ((idxP 1 3 v37 (I 1)).bind (fun v38 =>
 ((pld h33 v38).bind (fun v39 =>
 ((call (Fn.func 139) [(SV.one v39), (SV.one (Value.func (Fn.func 142) (Array.mk []) (Array.mk [a12, (ptr r25.2.next 0)])))] h33).bind (fun r40 =>
 (unT r40.1 (fun l41 =>
 (unCons l41 (fun x42 l43 =>
 (un1 x42 (fun v44 =>
 (unCons l43 (fun x45 l46 =>
 (un1 x45 (fun v47 =>
 (unNil l46 ((un UnOp.not v47).bind (fun v48 =>
 (condV v48 (some (Out.normal, ([(SV.one a11), (SV.one a12), (SV.one a13), (SV.one a14), (SV.one a15)], r40.2))) ((pld r40.2 (ptr h.next 0)).bind (fun v49 =>
 ((pld r40.2 (ptr r25.2.next 0)).bind (fun v50 =>
 ((lenS (slc r40.2.next 0 3 1)).bind (fun v51 =>
 ((LP80_1 call N N [(SV.one a11), (SV.one a12), (SV.one (ptr h.next 0)), (SV.one (ptr r25.2.next 0)), (SV.one (slc r40.2.next 0 3 1)), (SV.one v51), (SV.one (I 0))] (H.new r40.2 (Blk.cells [(I 0), v49, v50] 3 true))).bind (fun r52 =>
 (outc r52.1 (unNil r52.2.1 none) (fun i53 =>
 (ifN i53 2 (unConD r52.2.1 (fun x54 l55 =>
 (un1 x54 (fun v56 =>
 (unConD l55 (fun x57 l58 =>
 (un1 x57 (fun v59 =>
 (unConD l58 (fun x60 l61 =>
 (un1 x60 (fun v62 =>
 (unConD l61 (fun x63 l64 =>
 (un1 x63 (fun v65 =>
 (unNil l64 (sameB v59 v59 ((pld (hideL [(r52.2.2.next + 9)] (H.skip r52.2.2 14)) v59).bind (fun v66 =>
 ((pld (hideL [(r52.2.2.next + 9)] (H.skip r52.2.2 14)) v59).bind (fun v67 =>
 ((nilC v67).bind (fun v68 =>
 ((padd 4 v68).bind (fun v69 =>
 ((pld (hideL [(r52.2.2.next + 9)] (H.skip r52.2.2 14)) v69).bind (fun v70 =>
 ((pld (hideL [] (H.skip r52.2.2 14)) v62).bind (fun v71 =>
 ((pld (hideL [] (H.skip r52.2.2 14)) v65).bind (fun v72 =>
 (fillK (fun l73 =>
 ((bOf v59).bind (fun i74 =>
 ((H.appS (frzL [i74] (hideL [] (H.put (H.skip r52.2.2 14) (r52.2.2.next + 9) (some (Blk.cells l73 77 true))))) 3 77 (slc (r52.2.2.next + 9) 0 1 1) v70).bind (fun r75 =>
 ((nilC v66).bind (fun v76 =>
 ((padd 4 v76).bind (fun v77 =>
 ((pst (frzL [] (hideL [] (thawL [i74] (H.put (H.skip r52.2.2 14) (r52.2.2.next + 9) (some (Blk.cells l73 77 true))) r75.2))) r75.1 v77).bind (fun h78 =>
 (some ((Out.ret (SV.one (Value.bool true))), ([], (thawL [] (thawL [i74] (H.put (H.skip r52.2.2 14) (r52.2.2.next + 9) (some (Blk.cells l73 77 true))) r75.2) h78))))))))))))))) [(I 0), (I 0), (I 0)] [(0, (3, (some (SV.agg [v71, v72, v56]))))]))))))))))))))))))))))))))))))))) none)) (fun x79 =>
 (some ((Out.ret x79), ([], r52.2.2))))))))))))))))))))))))))))))))))))))))))))))))))))))))))))))))))))))))).bind (fun r80 =>
 (outc r80.1 (unConD r80.2.1 (fun x81 l82 =>
 (un1 x81 (fun v83 =>
 (unConD l82 (fun x84 l85 =>
 (un1 x84 (fun v86 =>
 (unConD l85 (fun x87 l88 =>
 (un1 x87 (fun v89 =>
 (unConD l88 (fun x90 l91 =>
 (un1 x90 (fun v92 =>
 (unConD l91 (fun x93 l94 =>
 (un1 x93 (fun v95 =>
 (unNil l94 ((ibin BinOp.add v95 (I 1)).bind (fun v96 =>
 (go [(SV.one v83), (SV.one v86), (SV.one v89), (SV.one v92), (SV.one v96)] r80.2.2)))))))))))))))))))))))) (fun i97 =>
 none) (fun x98 =>
 (some ((Out.ret x98), ([], r80.2.2))))))) (some ((Out.exit 0), ([], h))))))
theorem LP80_0_succ (call : CallT) (N m : Nat) (a11 : Value) (a12 : Value) (a13 : Value) (a14 : Value) (a15 : Value) (h : H) : LP80_0 call N (m + 1) [(SV.one a11), (SV.one a12), (SV.one a13), (SV.one a14), (SV.one a15)] h = B80_0 call N (LP80_0 call N m) a11 a12 a13 a14 a15 h := by kernel_rfl
noncomputable def F80 (call : CallT) (N : Nat) (a0 : Value) (a1 : Value) (h : H) : Option (SV × H) :=
 ((pld (H.new h (Blk.cells [a0] 144 true)) (ptr h.next 0)).bind (fun v2 =>
 ((nilC v2).bind (fun v3 =>
 ((padd 1 v3).bind (fun v4 =>
 ((idxP 1 3 v4 (I 1)).bind (fun v5 =>
 ((pld (H.new h (Blk.cells [a0] 144 true)) v5).bind (fun v6 =>
 ((lenS v6).bind (fun v7 =>
 ((LP80_0 call N N [(SV.one a1), (SV.one (ptr h.next 0)), (SV.one v6), (SV.one v7), (SV.one (I 0))] (H.new h (Blk.cells [a0] 144 true))).bind (fun r8 =>
 (outc r8.1 (unNil r8.2.1 (some ((SV.one (Value.bool false)), r8.2.2))) (fun i9 =>
 (ifN i9 0 (unNil r8.2.1 (some ((SV.one (Value.bool false)), r8.2.2))) none)) (fun x10 =>
 (some (x10, r8.2.2))))))))))))))))))
theorem F80_eq (call : CallT) (N : Nat) (a0 : Value) (a1 : Value) (h : H) : execF Proofs.Tryz.prog call hints N 80 [(SV.one a0), (SV.one a1)] h = F80 call N a0 a1 h := by kernel_rfl
-- f38
noncomputable def LP38_2 (call : CallT) (N : Nat) : Nat → List SV → H → Option X := loopIt (fun st h k => exec Proofs.Tryz.prog call N (some Proofs.Tryz.f38.results) (((Proofs.Tryz.f38).body.getD .skip).l2.l2.l2.l2.l2.l1.l2.l1.l1.l2.l2.l1.l1.l2.l2.l1).l1 (hl1 (hl1 (hl2 (hl2 (hl1 (hl1 (hl2 (hl2 (hl1 (hl1 (hl2 (hl1 (hl2 (hl2 (hl2 (hl2 (hl2 (hints 38)))))))))))))))))) st h k) [(7, Sh.one), (9, Sh.one), (42, Sh.one), (43, Sh.one), (44, Sh.one)] (Join.mk [] [(4, [(7, Sh.one), (42, Sh.one), (43, Sh.one), (44, Sh.one)])]) 74
noncomputable def B38_2 (call : CallT) (N : Nat) (go : List SV → H → Option X) (a87 : Value) (a88 : Value) (a89 : Value) (a90 : Value) (a91 : Value) (h : H) : Option X :=
 ((padd 0 a88).bind (fun v92 =>
 ((pld h v92).bind (fun v93 =>
 ((call (Fn.func 80) [(SV.one a87), (SV.one v93)] h).bind (fun r94 =>
 (un1 r94.1 (fun v95 =>
 (condV v95 (go [(SV.one a87), (SV.one a88), (SV.one a89), (SV.one a90), (SV.one a91)] r94.2) (some ((Out.exit 4), ([(SV.one a87), (SV.one a89), (SV.one a90), (SV.one a91)], r94.2))))))))))))
theorem LP38_2_succ (call : CallT) (N m : Nat) (a87 : Value) (a88 : Value) (a89 : Value) (a90 : Value) (a91 : Value) (h : H) : LP38_2 call N (m + 1) [(SV.one a87), (SV.one a88), (SV.one a89), (SV.one a90), (SV.one a91)] h = B38_2 call N (LP38_2 call N m) a87 a88 a89 a90 a91 h := by kernel_rfl
noncomputable def LP38_1 (call : CallT) (N : Nat) : Nat → List SV → H → Option X := loopIt (fun st h k => exec Proofs.Tryz.prog call N (some Proofs.Tryz.f38.results) (((Proofs.Tryz.f38).body.getD .skip).l2.l2.l2.l2.l2.l1.l2.l1).l1 (hl1 (hl1 (hl2 (hl1 (hl2 (hl2 (hl2 (hl2 (hl2 (hints 38)))))))))) st h k) [(7, Sh.one), (42, Sh.one), (43, Sh.one), (44, Sh.one)] (Join.mk [] [(2, [(7, Sh.one)])]) 74
noncomputable def B38_1 (call : CallT) (N : Nat) (go : List SV → H → Option X) (a49 : Value) (a50 : Value) (a51 : Value) (a52 : Value) (h : H) : Option X :=
 ((ibin BinOp.lss a52 a51).bind (fun v53 =>
 (condV v53 ((idxS 3 a50 a52).bind (fun v54 =>
 ((pldn h 3 v54).bind (fun l55 =>
 (ifLen l55 3 ((pstn (H.new h (Blk.cells [(I 0), (I 0), (I 0)] 81 true)) l55 (ptr h.next 0)).bind (fun h56 =>
 ((padd 1 (ptr h.next 0)).bind (fun v57 =>
 (sameB (ptr h.next 0) v57 ((pld (hideL [(h56.next + 11)] (H.skip h56 17)) v57).bind (fun v58 =>
 ((padd 1 (ptr h.next 0)).bind (fun v59 =>
 ((pld (hideL [(h56.next + 11)] (H.skip h56 17)) v59).bind (fun v60 =>
 ((nilC a49).bind (fun v61 =>
 ((padd 1 v61).bind (fun v62 =>
 ((idxP 1 3 v62 v60).bind (fun v63 =>
 ((pld (hideL [(h56.next + 11)] (H.skip h56 17)) v63).bind (fun v64 =>
 ((bOf (ptr h.next 0)).bind (fun i65 =>
 ((H.appS (frzL [i65] (hideL [] (H.put (H.skip h56 17) (h56.next + 11) (some (Blk.cells [a52] 3 true))))) 1 3 (slc (h56.next + 11) 0 1 1) v64).bind (fun r66 =>
 ((nilC a49).bind (fun v67 =>
 ((padd 1 v67).bind (fun v68 =>
 ((idxP 1 3 v68 v58).bind (fun v69 =>
 ((pst (frzL [] (hideL [] (thawL [i65] (H.put (H.skip h56 17) (h56.next + 11) (some (Blk.cells [a52] 3 true))) r66.2))) r66.1 v69).bind (fun h70 =>
 ((LP38_2 call N N [(SV.one a49), (SV.one (ptr h.next 0)), (SV.one a50), (SV.one a51), (SV.one a52)] (thawL [] (thawL [i65] (H.put (H.skip h56 17) (h56.next + 11) (some (Blk.cells [a52] 3 true))) r66.2) h70)).bind (fun r71 =>
 (outc r71.1 (unNil r71.2.1 none) (fun i72 =>
 (ifN i72 4 (unConD r71.2.1 (fun x73 l74 =>
 (un1 x73 (fun v75 =>
 (unConD l74 (fun x76 l77 =>
 (un1 x76 (fun v78 =>
 (unConD l77 (fun x79 l80 =>
 (un1 x79 (fun v81 =>
 (unConD l80 (fun x82 l83 =>
 (un1 x82 (fun v84 =>
 (unNil l83 ((ibin BinOp.add v84 (I 1)).bind (fun v85 =>
 (go [(SV.one v75), (SV.one v78), (SV.one v81), (SV.one v85)] r71.2.2)))))))))))))))))))) none)) (fun x86 =>
 (some ((Out.ret x86), ([], r71.2.2))))))))))))))))))))))))))))))))))))))))))) (some ((Out.exit 2), ([(SV.one a49)], h))))))
theorem LP38_1_succ (call : CallT) (N m : Nat) (a49 : Value) (a50 : Value) (a51 : Value) (a52 : Value) (h : H) : LP38_1 call N (m + 1) [(SV.one a49), (SV.one a50), (SV.one a51), (SV.one a52)] h = B38_1 call N (LP38_1 call N m) a49 a50 a51 a52 h := by kernel_rfl
noncomputable def LP38_0 (call : CallT) (N : Nat) : Nat → List SV → H → Option X := loopIt (fun st h k => exec Proofs.Tryz.prog call N (some Proofs.Tryz.f38.results) (((Proofs.Tryz.f38).body.getD .skip).l2.l2.l2.l1.l2.l1).l1 (hl1 (hl1 (hl2 (hl1 (hl2 (hl2 (hl2 (hints 38)))))))) st h k) [(0, Sh.one), (4, Sh.one), (13, Sh.one), (14, Sh.one), (15, Sh.one)] (Join.mk [] [(0, [(0, Sh.one)])]) 74
noncomputable def B38_0 (call : CallT) (N : Nat) (go : List SV → H → Option X) (a20 : Value) (a21 : Value) (a22 : Value) (a23 : Value) (a24 : Value) (h : H) : Option X :=
 ((ibin BinOp.lss a24 a23).bind (fun v25 =>
 (condV v25 ((idxS 3 a22 a24).bind (fun v26 =>
 ((pldn h 3 v26).bind (fun l27 =>
 (ifLen l27 3 ((pstn (H.new h (Blk.cells [(I 0), (I 0), (I 0)] 81 true)) l27 (ptr h.next 0)).bind (fun h28 =>
 ((padd 1 (ptr h.next 0)).bind (fun v29 =>
 ((pld h28 v29).bind (fun v30 =>
 ((call (Fn.func 56) [(SV.one v30), (SV.one (I 1)), (SV.one (I 2))] h28).bind (fun r31 =>
 (un1 r31.1 (fun v32 =>
 ((un UnOp.not v32).bind (fun v33 =>
 ((gsel v33 false ((padd 2 (ptr h.next 0)).bind (fun v34 =>
 ((pld r31.2 v34).bind (fun v35 =>
 ((call (Fn.func 56) [(SV.one v35), (SV.one (I 0)), (SV.one (I 4095))] r31.2).bind (fun r36 =>
 (un1 r36.1 (fun v37 =>
 ((un UnOp.not v37).bind (fun v38 =>
 (some (v38, r36.2)))))))))))) (some ((Value.bool true), r31.2))).bind (fun r39 =>
 ((gsel r39.1 false ((padd 0 (ptr h.next 0)).bind (fun v40 =>
 ((pld r39.2 v40).bind (fun v41 =>
 ((call (Fn.func 56) [(SV.one v41), (SV.one a21), (SV.one (I 4000))] r39.2).bind (fun r42 =>
 (un1 r42.1 (fun v43 =>
 ((un UnOp.not v43).bind (fun v44 =>
 (some (v44, r42.2)))))))))))) (some ((Value.bool true), r39.2))).bind (fun r45 =>
 (condV r45.1 (some ((Out.ret (SV.tup [(SV.one (Value.slice none 0 0)), (SV.one (I 121))])), ([], r45.2))) ((padd 0 (ptr h.next 0)).bind (fun v46 =>
 ((pld r45.2 v46).bind (fun v47 =>
 ((ibin BinOp.add a24 (I 1)).bind (fun v48 =>
 (go [(SV.one a20), (SV.one v47), (SV.one a22), (SV.one a23), (SV.one v48)] r45.2))))))))))))))))))))))))))))) (some ((Out.exit 0), ([(SV.one a20)], h))))))
theorem LP38_0_succ (call : CallT) (N m : Nat) (a20 : Value) (a21 : Value) (a22 : Value) (a23 : Value) (a24 : Value) (h : H) : LP38_0 call N (m + 1) [(SV.one a20), (SV.one a21), (SV.one a22), (SV.one a23), (SV.one a24)] h = B38_0 call N (LP38_0 call N m) a20 a21 a22 a23 a24 h := by kernel_rfl
noncomputable def F38 (call : CallT) (N : Nat) (a0 : Value) (h : H) : Option (SV × H) :=
 ((lenS a0).bind (fun v1 =>
 ((ibin BinOp.gtr v1 (I 60)).bind (fun v2 =>
 (condV v2 (some ((SV.tup [(SV.one (Value.slice none 0 0)), (SV.one (I 2))]), h)) ((lenS a0).bind (fun v3 =>
 ((LP38_0 call N N [(SV.one a0), (SV.one (I 0)), (SV.one a0), (SV.one v3), (SV.one (I 0))] h).bind (fun r4 =>
 (outc r4.1 (unNil r4.2.1 none) (fun i5 =>
 (ifN i5 0 (unConD r4.2.1 (fun x6 l7 =>
 (un1 x6 (fun v8 =>
 (unNil l7 ((lenS v8).bind (fun v9 =>
 ((LP38_1 call N N [(SV.one (ptr r4.2.2.next 0)), (SV.one v8), (SV.one v9), (SV.one (I 0))] (H.new r4.2.2 (Blk.cells [v8, (Value.slice none 0 0), (Value.slice none 0 0), (Value.slice none 0 0), (Value.slice none 0 0)] 147 true))).bind (fun r10 =>
 (outc r10.1 (unNil r10.2.1 none) (fun i11 =>
 (ifN i11 2 (unConD r10.2.1 (fun x12 l13 =>
 (un1 x12 (fun v14 =>
 (unNil l13 ((nilC v14).bind (fun v15 =>
 ((padd 4 v15).bind (fun v16 =>
 ((pld r10.2.2 v16).bind (fun v17 =>
 (some ((SV.tup [(SV.one v17), (SV.one (I 0))]), r10.2.2))))))))))))) none)) (fun x18 =>
 (some (x18, r10.2.2))))))))))))) none)) (fun x19 =>
 (some (x19, r4.2.2)))))))))))))
theorem F38_eq (call : CallT) (N : Nat) (a0 : Value) (h : H) : execF Proofs.Tryz.prog call hints N 38 [(SV.one a0)] h = F38 call N a0 h := by kernel_rfl
-- f39
noncomputable def LP39_2 (call : CallT) (N : Nat) : Nat → List SV → H → Option X := loopIt (fun st h k => exec Proofs.Tryz.prog call N (some Proofs.Tryz.f39.results) (((Proofs.Tryz.f39).body.getD .skip).l2.l2.l2.l2.l2.l2.l1.l2.l1.l1.l2.l1.l1.l2.l1).l1 (hl1 (hl1 (hl2 (hl1 (hl1 (hl2 (hl1 (hl1 (hl2 (hl1 (hl2 (hl2 (hl2 (hl2 (hl2 (hl2 (hints 39))))))))))))))))) st h k) [(0, Sh.one), (6, Sh.one), (7, Sh.one), (8, Sh.one)] (Join.mk [] [(4, [(0, Sh.one), (6, Sh.one), (7, Sh.one), (8, Sh.one)])]) 89
noncomputable def B39_2 (call : CallT) (N : Nat) (go : List SV → H → Option X) (a70 : Value) (a71 : Value) (a72 : Value) (a73 : Value) (h : H) : Option X :=
 ((call (Fn.func 81) [(SV.one a70), (SV.one a72)] h).bind (fun r74 =>
 (unT r74.1 (fun l75 =>
 (unCons l75 (fun x76 l77 =>
 (un1 x76 (fun v78 =>
 (unCons l77 (fun x79 l80 =>
 (un1 x79 (fun v81 =>
 (unNil l80 ((ibin BinOp.lss v78 (I 0)).bind (fun v82 =>
 (condV v82 (some ((Out.exit 4), ([(SV.one a70), (SV.one a71), (SV.one a72), (SV.one a73)], r74.2))) ((idxS 1 a72 v78).bind (fun v83 =>
 ((pst r74.2 (Value.bool false) v83).bind (fun h84 =>
 ((idxS 1 a72 v81).bind (fun v85 =>
 ((pst h84 (Value.bool false) v85).bind (fun h86 =>
 ((idxS 3 a70 a73).bind (fun v87 =>
 ((padd 0 v87).bind (fun v88 =>
 ((pld h86 v88).bind (fun v89 =>
 (fillK (fun l90 =>
 ((H.appS (H.new h86 (Blk.cells l90 77 true)) 3 77 (slc h86.next 0 1 1) a71).bind (fun r91 =>
 (go [(SV.one a70), (SV.one r91.1), (SV.one a72), (SV.one a73)] r91.2)))) [(I 0), (I 0), (I 0)] [(0, (3, (some (SV.agg [v78, v81, v89]))))])))))))))))))))))))))))))))))))
theorem LP39_2_succ (call : CallT) (N m : Nat) (a70 : Value) (a71 : Value) (a72 : Value) (a73 : Value) (h : H) : LP39_2 call N (m + 1) [(SV.one a70), (SV.one a71), (SV.one a72), (SV.one a73)] h = B39_2 call N (LP39_2 call N m) a70 a71 a72 a73 h := by kernel_rfl
noncomputable def LP39_1 (call : CallT) (N : Nat) : Nat → List SV → H → Option X := loopIt (fun st h k => exec Proofs.Tryz.prog call N (some Proofs.Tryz.f39.results) (((Proofs.Tryz.f39).body.getD .skip).l2.l2.l2.l2.l2.l2.l1.l2.l1).l1 (hl1 (hl1 (hl2 (hl1 (hl2 (hl2 (hl2 (hl2 (hl2 (hl2 (hints 39))))))))))) st h k) [(0, Sh.one), (6, Sh.one), (7, Sh.one), (8, Sh.one)] (Join.mk [] [(2, [(6, Sh.one)])]) 89
noncomputable def B39_1 (call : CallT) (N : Nat) (go : List SV → H → Option X) (a46 : Value) (a47 : Value) (a48 : Value) (a49 : Value) (h : H) : Option X :=
 ((lenS a46).bind (fun v50 =>
 ((ibin BinOp.lss a49 v50).bind (fun v51 =>
 (condV v51 ((idxS 1 a48 a49).bind (fun v52 =>
 ((pst h (Value.bool true) v52).bind (fun h53 =>
 ((LP39_2 call N N [(SV.one a46), (SV.one a47), (SV.one a48), (SV.one a49)] h53).bind (fun r54 =>
 (outc r54.1 (unNil r54.2.1 none) (fun i55 =>
 (ifN i55 4 (unConD r54.2.1 (fun x56 l57 =>
 (un1 x56 (fun v58 =>
 (unConD l57 (fun x59 l60 =>
 (un1 x59 (fun v61 =>
 (unConD l60 (fun x62 l63 =>
 (un1 x62 (fun v64 =>
 (unConD l63 (fun x65 l66 =>
 (un1 x65 (fun v67 =>
 (unNil l66 ((ibin BinOp.add v67 (I 1)).bind (fun v68 =>
 (go [(SV.one v58), (SV.one v61), (SV.one v64), (SV.one v68)] r54.2.2)))))))))))))))))))) none)) (fun x69 =>
 (some ((Out.ret x69), ([], r54.2.2))))))))))) (some ((Out.exit 2), ([(SV.one a47)], h))))))))
theorem LP39_1_succ (call : CallT) (N m : Nat) (a46 : Value) (a47 : Value) (a48 : Value) (a49 : Value) (h : H) : LP39_1 call N (m + 1) [(SV.one a46), (SV.one a47), (SV.one a48), (SV.one a49)] h = B39_1 call N (LP39_1 call N m) a46 a47 a48 a49 h := by kernel_rfl
noncomputable def LP39_0 (call : CallT) (N : Nat) : Nat → List SV → H → Option X := loopIt (fun st h k => exec Proofs.Tryz.prog call N (some Proofs.Tryz.f39.results) (((Proofs.Tryz.f39).body.getD .skip).l2.l2.l2.l1.l2.l1).l1 (hl1 (hl1 (hl2 (hl1 (hl2 (hl2 (hl2 (hints 39)))))))) st h k) [(0, Sh.one), (4, Sh.one), (5, Sh.one)] (Join.mk [] [(0, [(0, Sh.one)])]) 89
noncomputable def B39_0 (call : CallT) (N : Nat) (go : List SV → H → Option X) (a17 : Value) (a18 : Value) (a19 : Value) (h : H) : Option X :=
 ((lenS a17).bind (fun v20 =>
 ((ibin BinOp.lss a19 v20).bind (fun v21 =>
 (condV v21 ((idxS 3 a17 a19).bind (fun v22 =>
 ((padd 0 v22).bind (fun v23 =>
 ((pld h v23).bind (fun v24 =>
 ((call (Fn.func 61) [(SV.one v24), (SV.one a18), (SV.one (I 4000))] h).bind (fun r25 =>
 (un1 r25.1 (fun v26 =>
 ((un UnOp.not v26).bind (fun v27 =>
 ((gsel v27 false ((idxS 3 a17 a19).bind (fun v28 =>
 ((padd 1 v28).bind (fun v29 =>
 ((pld r25.2 v29).bind (fun v30 =>
 ((call (Fn.func 61) [(SV.one v30), (SV.one (I 1)), (SV.one (I 2))] r25.2).bind (fun r31 =>
 (un1 r31.1 (fun v32 =>
 ((un UnOp.not v32).bind (fun v33 =>
 (some (v33, r31.2)))))))))))))) (some ((Value.bool true), r25.2))).bind (fun r34 =>
 ((gsel r34.1 false ((idxS 3 a17 a19).bind (fun v35 =>
 ((padd 2 v35).bind (fun v36 =>
 ((pld r34.2 v36).bind (fun v37 =>
 ((call (Fn.func 61) [(SV.one v37), (SV.one (I 0)), (SV.one (I 4095))] r34.2).bind (fun r38 =>
 (un1 r38.1 (fun v39 =>
 ((un UnOp.not v39).bind (fun v40 =>
 (some (v40, r38.2)))))))))))))) (some ((Value.bool true), r34.2))).bind (fun r41 =>
 (condV r41.1 (some ((Out.ret (SV.tup [(SV.one (Value.slice none 0 0)), (SV.one (I 121))])), ([], r41.2))) ((idxS 3 a17 a19).bind (fun v42 =>
 ((padd 0 v42).bind (fun v43 =>
 ((pld r41.2 v43).bind (fun v44 =>
 ((ibin BinOp.add a19 (I 1)).bind (fun v45 =>
 (go [(SV.one a17), (SV.one v44), (SV.one v45)] r41.2)))))))))))))))))))))))))) (some ((Out.exit 0), ([(SV.one a17)], h))))))))
theorem LP39_0_succ (call : CallT) (N m : Nat) (a17 : Value) (a18 : Value) (a19 : Value) (h : H) : LP39_0 call N (m + 1) [(SV.one a17), (SV.one a18), (SV.one a19)] h = B39_0 call N (LP39_0 call N m) a17 a18 a19 h := by kernel_rfl
noncomputable def F39 (call : CallT) (N : Nat) (a0 : Value) (h : H) : Option (SV × H) :=
 ((lenS a0).bind (fun v1 =>
 ((ibin BinOp.gtr v1 (I 60)).bind (fun v2 =>
 (condV v2 (some ((SV.tup [(SV.one (Value.slice none 0 0)), (SV.one (I 2))]), h)) ((LP39_0 call N N [(SV.one a0), (SV.one (I 0)), (SV.one (I 0))] h).bind (fun r3 =>
 (outc r3.1 (unNil r3.2.1 none) (fun i4 =>
 (ifN i4 0 (unConD r3.2.1 (fun x5 l6 =>
 (un1 x5 (fun v7 =>
 (unNil l6 ((lenS v7).bind (fun v8 =>
 ((H.mkS r3.2.2 [(Value.bool false)] 4 v8 v8).bind (fun r9 =>
 ((LP39_1 call N N [(SV.one v7), (SV.one (Value.slice none 0 0)), (SV.one r9.1), (SV.one (I 0))] r9.2).bind (fun r10 =>
 (outc r10.1 (unNil r10.2.1 none) (fun i11 =>
 (ifN i11 2 (unConD r10.2.1 (fun x12 l13 =>
 (un1 x12 (fun v14 =>
 (unNil l13 (some ((SV.tup [(SV.one v14), (SV.one (I 0))]), r10.2.2))))))) none)) (fun x15 =>
 (some (x15, r10.2.2))))))))))))))) none)) (fun x16 =>
 (some (x16, r3.2.2)))))))))))
theorem F39_eq (call : CallT) (N : Nat) (a0 : Value) (h : H) : execF Proofs.Tryz.prog call hints N 39 [(SV.one a0)] h = F39 call N a0 h := by kernel_rfl
-- f81
noncomputable def LP81_1 (call : CallT) (N : Nat) : Nat → List SV → H → Option X := loopIt (fun st h k => exec Proofs.Tryz.prog call N (some Proofs.Tryz.f81.results) (((Proofs.Tryz.f81).body.getD .skip).l2.l1.l2.l1.l1.l2.l1.l1.l2.l2.l1).l1 (hl1 (hl1 (hl2 (hl2 (hl1 (hl1 (hl2 (hl1 (hl1 (hl2 (hl1 (hl2 (hints 81))))))))))))) st h k) [(0, Sh.one), (1, Sh.one), (6, Sh.one), (7, Sh.one)] (Join.mk [] [(2, [(0, Sh.one), (1, Sh.one), (6, Sh.one)])]) 65
noncomputable def B81_1 (call : CallT) (N : Nat) (go : List SV → H → Option X) (a43 : Value) (a44 : Value) (a45 : Value) (a46 : Value) (h : H) : Option X :=
 ((lenS a43).bind (fun v47 =>
 ((ibin BinOp.lss a46 v47).bind (fun v48 =>
 (condV v48 ((idxS 1 a44 a46).bind (fun v49 =>
 ((pld (hideL [] h) v49).bind (fun v50 =>
 ((gateS (SV.one v50) true (some ((some (SV.one a43)), h)) (some (none, h))).bind (fun r51 =>
 ((gateS (SV.one v50) true (some ((some (SV.one a46)), r51.2)) (some (none, r51.2))).bind (fun r52 =>
 ((gateS (SV.one v50) true (un1 (ovS r51.1) (fun v53 =>
 (un1 (ovS r52.1) (fun v54 =>
 ((idxS 3 v53 v54).bind (fun v55 =>
 (some ((some (SV.one v55)), r52.2)))))))) (some (none, r52.2))).bind (fun r56 =>
 ((gateS (SV.one v50) true (un1 (ovS r56.1) (fun v57 =>
 ((padd 1 v57).bind (fun v58 =>
 (some ((some (SV.one v58)), r56.2)))))) (some (none, r56.2))).bind (fun r59 =>
 ((gateS (SV.one v50) true (un1 (ovS r59.1) (fun v60 =>
 ((pld (hideL [] r59.2) v60).bind (fun v61 =>
 (some ((some (SV.one v61)), r59.2)))))) (some (none, r59.2))).bind (fun r62 =>
 ((gateS (SV.one v50) true (un1 (ovS r62.1) (fun v63 =>
 ((ibin BinOp.eql v63 (I 2)).bind (fun v64 =>
 (some ((some (SV.one v64)), r62.2)))))) (some (none, r62.2))).bind (fun r65 =>
 ((pickV v50 (some (ovS r65.1)) (some (SV.one (Value.bool false)))).bind (fun v66 =>
 ((gateS (SV.one v66) true (some ((some (SV.one a43)), r65.2)) (some (none, r65.2))).bind (fun r67 =>
 ((gateS (SV.one v66) true (some ((some (SV.one a45)), r67.2)) (some (none, r67.2))).bind (fun r68 =>
 ((gateS (SV.one v66) true (un1 (ovS r67.1) (fun v69 =>
 (un1 (ovS r68.1) (fun v70 =>
 ((idxS 3 v69 v70).bind (fun v71 =>
 (some ((some (SV.one v71)), r68.2)))))))) (some (none, r68.2))).bind (fun r72 =>
 ((gateS (SV.one v66) true (un1 (ovS r72.1) (fun v73 =>
 ((pldn (hideL [] r72.2) 3 v73).bind (fun l74 =>
 (some ((some (SV.agg l74)), r72.2)))))) (some (none, r72.2))).bind (fun r75 =>
 ((gateS (SV.one v66) true (some ((some (SV.one a43)), r75.2)) (some (none, r75.2))).bind (fun r76 =>
 ((gateS (SV.one v66) true (some ((some (SV.one a46)), r76.2)) (some (none, r76.2))).bind (fun r77 =>
 ((gateS (SV.one v66) true (un1 (ovS r76.1) (fun v78 =>
 (un1 (ovS r77.1) (fun v79 =>
 ((idxS 3 v78 v79).bind (fun v80 =>
 (some ((some (SV.one v80)), r77.2)))))))) (some (none, r77.2))).bind (fun r81 =>
 ((gateS (SV.one v66) true (un1 (ovS r81.1) (fun v82 =>
 ((pldn (hideL [] r81.2) 3 v82).bind (fun l83 =>
 (some ((some (SV.agg l83)), r81.2)))))) (some (none, r81.2))).bind (fun r84 =>
 ((gateS (SV.one v66) true ((call (Fn.func 40) [(ovS r75.1), (ovS r84.1)] (frzL [] (hideL [] r84.2))).bind (fun r85 =>
 (un1 r85.1 (fun v86 =>
 (some ((some (SV.one v86)), (thawL [] r84.2 r85.2))))))) (some (none, r84.2))).bind (fun r87 =>
 ((pickV v66 (some (ovS r87.1)) (some (SV.one (Value.bool false)))).bind (fun v88 =>
 ((gateS (SV.one v88) true (some ((some (SV.one a43)), r87.2)) (some (none, r87.2))).bind (fun r89 =>
 ((gateS (SV.one v88) true (some ((some (SV.one a44)), r89.2)) (some (none, r89.2))).bind (fun r90 =>
 ((gateS (SV.one v88) true (some ((some (SV.one a45)), r90.2)) (some (none, r90.2))).bind (fun r91 =>
 ((gateS (SV.one v88) true (some ((some (SV.one a46)), r91.2)) (some (none, r91.2))).bind (fun r92 =>
 ((gateS (SV.one v88) true ((call (Fn.func 145) [(ovS r89.1), (ovS r90.1), (ovS r91.1), (ovS r92.1)] (frzL [] (hideL [] r92.2))).bind (fun r93 =>
 (un1 r93.1 (fun v94 =>
 (some ((some (SV.one v94)), (thawL [] r92.2 r93.2))))))) (some (none, r92.2))).bind (fun r95 =>
 ((pickV v88 (some (ovS r95.1)) (some (SV.one (Value.bool false)))).bind (fun v96 =>
 (condV v96 (some ((Out.ret (SV.tup [(SV.one a45), (SV.one a46)])), ([], r95.2))) ((ibin BinOp.add a46 (I 1)).bind (fun v97 =>
 (go [(SV.one a43), (SV.one a44), (SV.one a45), (SV.one v97)] r95.2)))))))))))))))))))))))))))))))))))))))))))))))))))))) (some ((Out.exit 2), ([(SV.one a43), (SV.one a44), (SV.one a45)], h))))))))
theorem LP81_1_succ (call : CallT) (N m : Nat) (a43 : Value) (a44 : Value) (a45 : Value) (a46 : Value) (h : H) : LP81_1 call N (m + 1) [(SV.one a43), (SV.one a44), (SV.one a45), (SV.one a46)] h = B81_1 call N (LP81_1 call N m) a43 a44 a45 a46 h := by kernel_rfl
noncomputable def LP81_0 (call : CallT) (N : Nat) : Nat → List SV → H → Option X := loopIt (fun st h k => exec Proofs.Tryz.prog call N (some Proofs.Tryz.f81.results) (((Proofs.Tryz.f81).body.getD .skip).l2.l1.l2.l1).l1 (hl1 (hl1 (hl2 (hl1 (hl2 (hints 81)))))) st h k) [(0, Sh.one), (1, Sh.one), (6, Sh.one)] (Join.mk [] [(0, [])]) 65
noncomputable def B81_0 (call : CallT) (N : Nat) (go : List SV → H → Option X) (a5 : Value) (a6 : Value) (a7 : Value) (h : H) : Option X :=
 ((lenS a5).bind (fun v8 =>
 ((ibin BinOp.lss a7 v8).bind (fun v9 =>
 (condV v9 (((idxS 1 a6 a7).bind (fun v10 =>
 ((pld h v10).bind (fun v11 =>
 ((un UnOp.not v11).bind (fun v12 =>
 ((gsel v12 false ((idxS 3 a5 a7).bind (fun v13 =>
 ((padd 1 v13).bind (fun v14 =>
 ((pld h v14).bind (fun v15 =>
 ((ibin BinOp.neq v15 (I 1)).bind (fun v16 =>
 (some (v16, h)))))))))) (some ((Value.bool true), h))).bind (fun r17 =>
 (condV r17.1 (some (Out.normal, ([(SV.one a5), (SV.one a6), (SV.one a7)], r17.2))) ((LP81_1 call N N [(SV.one a5), (SV.one a6), (SV.one a7), (SV.one (I 0))] r17.2).bind (fun r18 =>
 (outc r18.1 (unNil r18.2.1 (some (Out.normal, ([SV.undef, SV.undef, SV.undef], r18.2.2)))) (fun i19 =>
 (ifN i19 2 (unConD r18.2.1 (fun x20 l21 =>
 (un1 x20 (fun v22 =>
 (unConD l21 (fun x23 l24 =>
 (un1 x23 (fun v25 =>
 (unConD l24 (fun x26 l27 =>
 (un1 x26 (fun v28 =>
 (unNil l27 (some (Out.normal, ([(SV.one v22), (SV.one v25), (SV.one v28)], r18.2.2)))))))))))))))) none)) (fun x29 =>
 (some ((Out.ret x29), ([], r18.2.2)))))))))))))))).bind (fun r30 =>
 (outc r30.1 (unConD r30.2.1 (fun x31 l32 =>
 (un1 x31 (fun v33 =>
 (unConD l32 (fun x34 l35 =>
 (un1 x34 (fun v36 =>
 (unConD l35 (fun x37 l38 =>
 (un1 x37 (fun v39 =>
 (unNil l38 ((ibin BinOp.add v39 (I 1)).bind (fun v40 =>
 (go [(SV.one v33), (SV.one v36), (SV.one v40)] r30.2.2)))))))))))))))) (fun i41 =>
 none) (fun x42 =>
 (some ((Out.ret x42), ([], r30.2.2))))))) (some ((Out.exit 0), ([], h))))))))
theorem LP81_0_succ (call : CallT) (N m : Nat) (a5 : Value) (a6 : Value) (a7 : Value) (h : H) : LP81_0 call N (m + 1) [(SV.one a5), (SV.one a6), (SV.one a7)] h = B81_0 call N (LP81_0 call N m) a5 a6 a7 h := by kernel_rfl
noncomputable def F81 (call : CallT) (N : Nat) (a0 : Value) (a1 : Value) (h : H) : Option (SV × H) :=
 ((LP81_0 call N N [(SV.one a0), (SV.one a1), (SV.one (I 0))] h).bind (fun r2 =>
 (outc r2.1 (unNil r2.2.1 (some ((SV.tup [(SV.one (I (-1))), (SV.one (I (-1)))]), r2.2.2))) (fun i3 =>
 (ifN i3 0 (unNil r2.2.1 (some ((SV.tup [(SV.one (I (-1))), (SV.one (I (-1)))]), r2.2.2))) none)) (fun x4 =>
 (some (x4, r2.2.2))))))
theorem F81_eq (call : CallT) (N : Nat) (a0 : Value) (a1 : Value) (h : H) : execF Proofs.Tryz.prog call hints N 81 [(SV.one a0), (SV.one a1)] h = F81 call N a0 a1 h := by kernel_rfl
-- f145
noncomputable def LP145_0 (call : CallT) (N : Nat) : Nat → List SV → H → Option X := loopIt (fun st h k => exec Proofs.Tryz.prog call N (some Proofs.Tryz.f145.results) (((Proofs.Tryz.f145).body.getD .skip).l2.l1.l2.l1).l1 (hl1 (hl1 (hl2 (hl1 (hl2 (hints 145)))))) st h k) [(0, Sh.one), (1, Sh.one), (2, Sh.one), (3, Sh.one), (9, Sh.one)] (Join.mk [] [(0, [])]) 67
noncomputable def B145_0 (call : CallT) (N : Nat) (go : List SV → H → Option X) (a7 : Value) (a8 : Value) (a9 : Value) (a10 : Value) (a11 : Value) (h : H) : Option X :=
 ((lenS a7).bind (fun v12 =>
 ((ibin BinOp.lss a11 v12).bind (fun v13 =>
 (condV v13 (((idxS 1 a8 a11).bind (fun v14 =>
 ((pld h v14).bind (fun v15 =>
 ((un UnOp.not v15).bind (fun v16 =>
 ((gsel v16 false ((ibin BinOp.eql a11 a9).bind (fun v17 =>
 (some (v17, h)))) (some ((Value.bool true), h))).bind (fun r18 =>
 ((gsel r18.1 false ((ibin BinOp.eql a11 a10).bind (fun v19 =>
 (some (v19, r18.2)))) (some ((Value.bool true), r18.2))).bind (fun r20 =>
 (condV r20.1 (some (Out.normal, ([(SV.one a7), (SV.one a8), (SV.one a9), (SV.one a10), (SV.one a11)], r20.2))) ((idxS 3 a7 a11).bind (fun v21 =>
 ((padd 1 v21).bind (fun v22 =>
 ((pld (hideL [] r20.2) v22).bind (fun v23 =>
 ((ibin BinOp.eql v23 (I 1)).bind (fun v24 =>
 ((gateS (SV.one v24) true (some ((some (SV.one a7)), r20.2)) (some (none, r20.2))).bind (fun r25 =>
 ((gateS (SV.one v24) true (some ((some (SV.one a11)), r25.2)) (some (none, r25.2))).bind (fun r26 =>
 ((gateS (SV.one v24) true (un1 (ovS r25.1) (fun v27 =>
 (un1 (ovS r26.1) (fun v28 =>
 ((idxS 3 v27 v28).bind (fun v29 =>
 (some ((some (SV.one v29)), r26.2)))))))) (some (none, r26.2))).bind (fun r30 =>
 ((gateS (SV.one v24) true (un1 (ovS r30.1) (fun v31 =>
 ((pldn (hideL [] r30.2) 3 v31).bind (fun l32 =>
 (some ((some (SV.agg l32)), r30.2)))))) (some (none, r30.2))).bind (fun r33 =>
 ((gateS (SV.one v24) true (some ((some (SV.one a7)), r33.2)) (some (none, r33.2))).bind (fun r34 =>
 ((gateS (SV.one v24) true (some ((some (SV.one a10)), r34.2)) (some (none, r34.2))).bind (fun r35 =>
 ((gateS (SV.one v24) true (un1 (ovS r34.1) (fun v36 =>
 (un1 (ovS r35.1) (fun v37 =>
 ((idxS 3 v36 v37).bind (fun v38 =>
 (some ((some (SV.one v38)), r35.2)))))))) (some (none, r35.2))).bind (fun r39 =>
 ((gateS (SV.one v24) true (un1 (ovS r39.1) (fun v40 =>
 ((pldn (hideL [] r39.2) 3 v40).bind (fun l41 =>
 (some ((some (SV.agg l41)), r39.2)))))) (some (none, r39.2))).bind (fun r42 =>
 ((gateS (SV.one v24) true ((call (Fn.func 40) [(ovS r33.1), (ovS r42.1)] (frzL [] (hideL [] r42.2))).bind (fun r43 =>
 (un1 r43.1 (fun v44 =>
 (some ((some (SV.one v44)), (thawL [] r42.2 r43.2))))))) (some (none, r42.2))).bind (fun r45 =>
 ((pickV v24 (some (ovS r45.1)) (some (SV.one (Value.bool false)))).bind (fun v46 =>
 ((gateS (SV.one v46) false (some ((some (SV.one a7)), r45.2)) (some (none, r45.2))).bind (fun r47 =>
 ((gateS (SV.one v46) false (some ((some (SV.one a11)), r47.2)) (some (none, r47.2))).bind (fun r48 =>
 ((gateS (SV.one v46) false (un1 (ovS r47.1) (fun v49 =>
 (un1 (ovS r48.1) (fun v50 =>
 ((idxS 3 v49 v50).bind (fun v51 =>
 (some ((some (SV.one v51)), r48.2)))))))) (some (none, r48.2))).bind (fun r52 =>
 ((gateS (SV.one v46) false (un1 (ovS r52.1) (fun v53 =>
 ((padd 1 v53).bind (fun v54 =>
 (some ((some (SV.one v54)), r52.2)))))) (some (none, r52.2))).bind (fun r55 =>
 ((gateS (SV.one v46) false (un1 (ovS r55.1) (fun v56 =>
 ((pld (hideL [] r55.2) v56).bind (fun v57 =>
 (some ((some (SV.one v57)), r55.2)))))) (some (none, r55.2))).bind (fun r58 =>
 ((gateS (SV.one v46) false (un1 (ovS r58.1) (fun v59 =>
 ((ibin BinOp.eql v59 (I 2)).bind (fun v60 =>
 (some ((some (SV.one v60)), r58.2)))))) (some (none, r58.2))).bind (fun r61 =>
 ((gateS (SV.one v46) false (some ((some (ovS r61.1)), r61.2)) (some (none, r61.2))).bind (fun r62 =>
 ((gateS (ovS r62.1) true (some ((some (SV.one a7)), r62.2)) (some (none, r62.2))).bind (fun r63 =>
 ((gateS (ovS r62.1) true (some ((some (SV.one a9)), r63.2)) (some (none, r63.2))).bind (fun r64 =>
 ((gateS (ovS r62.1) true (un1 (ovS r63.1) (fun v65 =>
 (un1 (ovS r64.1) (fun v66 =>
 ((idxS 3 v65 v66).bind (fun v67 =>
 (some ((some (SV.one v67)), r64.2)))))))) (some (none, r64.2))).bind (fun r68 =>
 ((gateS (ovS r62.1) true (un1 (ovS r68.1) (fun v69 =>
 ((pldn (hideL [] r68.2) 3 v69).bind (fun l70 =>
 (some ((some (SV.agg l70)), r68.2)))))) (some (none, r68.2))).bind (fun r71 =>
 ((gateS (ovS r62.1) true (some ((some (SV.one a7)), r71.2)) (some (none, r71.2))).bind (fun r72 =>
 ((gateS (ovS r62.1) true (some ((some (SV.one a11)), r72.2)) (some (none, r72.2))).bind (fun r73 =>
 ((gateS (ovS r62.1) true (un1 (ovS r72.1) (fun v74 =>
 (un1 (ovS r73.1) (fun v75 =>
 ((idxS 3 v74 v75).bind (fun v76 =>
 (some ((some (SV.one v76)), r73.2)))))))) (some (none, r73.2))).bind (fun r77 =>
 ((gateS (ovS r62.1) true (un1 (ovS r77.1) (fun v78 =>
 ((pldn (hideL [] r77.2) 3 v78).bind (fun l79 =>
 (some ((some (SV.agg l79)), r77.2)))))) (some (none, r77.2))).bind (fun r80 =>
 ((gateS (ovS r62.1) true ((call (Fn.func 40) [(ovS r71.1), (ovS r80.1)] (frzL [] (hideL [] r80.2))).bind (fun r81 =>
 (un1 r81.1 (fun v82 =>
 (some ((some (SV.one v82)), (thawL [] r80.2 r81.2))))))) (some (none, r80.2))).bind (fun r83 =>
 ((gateS (SV.one v46) false (un1 (ovS r62.1) (fun v84 =>
 ((pickV v84 (some (ovS r83.1)) (some (SV.one (Value.bool false)))).bind (fun v85 =>
 (some ((some (SV.one v85)), r83.2)))))) (some (none, r83.2))).bind (fun r86 =>
 ((pickV v46 (some (SV.one (Value.bool true))) (some (ovS r86.1))).bind (fun v87 =>
 (condV v87 (some ((Out.ret (SV.one (Value.bool false))), ([], r86.2))) (some (Out.normal, ([(SV.one a7), (SV.one a8), (SV.one a9), (SV.one a10), (SV.one a11)], r86.2))))))))))))))))))))))))))))))))))))))))))))))))))))))))))))))))))))))))))))))).bind (fun r88 =>
 (outc r88.1 (unConD r88.2.1 (fun x89 l90 =>
 (un1 x89 (fun v91 =>
 (unConD l90 (fun x92 l93 =>
 (un1 x92 (fun v94 =>
 (unConD l93 (fun x95 l96 =>
 (un1 x95 (fun v97 =>
 (unConD l96 (fun x98 l99 =>
 (un1 x98 (fun v100 =>
 (unConD l99 (fun x101 l102 =>
 (un1 x101 (fun v103 =>
 (unNil l102 ((ibin BinOp.add v103 (I 1)).bind (fun v104 =>
 (go [(SV.one v91), (SV.one v94), (SV.one v97), (SV.one v100), (SV.one v104)] r88.2.2)))))))))))))))))))))))) (fun i105 =>
 none) (fun x106 =>
 (some ((Out.ret x106), ([], r88.2.2))))))) (some ((Out.exit 0), ([], h))))))))
theorem LP145_0_succ (call : CallT) (N m : Nat) (a7 : Value) (a8 : Value) (a9 : Value) (a10 : Value) (a11 : Value) (h : H) : LP145_0 call N (m + 1) [(SV.one a7), (SV.one a8), (SV.one a9), (SV.one a10), (SV.one a11)] h = B145_0 call N (LP145_0 call N m) a7 a8 a9 a10 a11 h := by kernel_rfl
noncomputable def F145 (call : CallT) (N : Nat) (a0 : Value) (a1 : Value) (a2 : Value) (a3 : Value) (h : H) : Option (SV × H) :=
 ((LP145_0 call N N [(SV.one a0), (SV.one a1), (SV.one a2), (SV.one a3), (SV.one (I 0))] h).bind (fun r4 =>
 (outc r4.1 (unNil r4.2.1 (some ((SV.one (Value.bool true)), r4.2.2))) (fun i5 =>
 (ifN i5 0 (unNil r4.2.1 (some ((SV.one (Value.bool true)), r4.2.2))) none)) (fun x6 =>
 (some (x6, r4.2.2))))))
theorem F145_eq (call : CallT) (N : Nat) (a0 : Value) (a1 : Value) (a2 : Value) (a3 : Value) (h : H) : execF Proofs.Tryz.prog call hints N 145 [(SV.one a0), (SV.one a1), (SV.one a2), (SV.one a3)] h = F145 call N a0 a1 a2 a3 h := by kernel_rfl
-- f203
noncomputable def F203 (call : CallT) (N : Nat) (a0 : Value) (h : H) : Option (SV × H) :=
 (condV (Value.bool false) ((cvt IntKind.u32 a0).bind (fun v1 =>
 ((call (Fn.func 257) [(SV.one v1)] h).bind (fun r2 =>
 (un1 r2.1 (fun v3 =>
 (some ((SV.one v3), r2.2)))))))) ((call (Fn.func 258) [(SV.one a0)] h).bind (fun r4 =>
 (un1 r4.1 (fun v5 =>
 (some ((SV.one v5), r4.2)))))))
theorem F203_eq (call : CallT) (N : Nat) (a0 : Value) (h : H) : execF Proofs.Tryz.prog call hints N 203 [(SV.one a0)] h = F203 call N a0 h := by kernel_rfl
-- f258
noncomputable def F258 (call : CallT) (N : Nat) (a0 : Value) (h : H) : Option (SV × H) :=
 ((ibin BinOp.shr a0 (Value.int IntKind.u64 1)).bind (fun v1 =>
 ((ibin BinOp.and v1 (Value.int IntKind.u64 6148914691236517205)).bind (fun v2 =>
 ((ibin BinOp.and a0 (Value.int IntKind.u64 6148914691236517205)).bind (fun v3 =>
 ((ibin BinOp.add v2 v3).bind (fun v4 =>
 ((ibin BinOp.shr v4 (Value.int IntKind.u64 2)).bind (fun v5 =>
 ((ibin BinOp.and v5 (Value.int IntKind.u64 3689348814741910323)).bind (fun v6 =>
 ((ibin BinOp.and v4 (Value.int IntKind.u64 3689348814741910323)).bind (fun v7 =>
 ((ibin BinOp.add v6 v7).bind (fun v8 =>
 ((ibin BinOp.shr v8 (Value.int IntKind.u64 4)).bind (fun v9 =>
 ((ibin BinOp.add v9 v8).bind (fun v10 =>
 ((ibin BinOp.and v10 (Value.int IntKind.u64 1085102592571150095)).bind (fun v11 =>
 ((ibin BinOp.shr v11 (Value.int IntKind.u64 8)).bind (fun v12 =>
 ((ibin BinOp.add v11 v12).bind (fun v13 =>
 ((ibin BinOp.shr v13 (Value.int IntKind.u64 16)).bind (fun v14 =>
 ((ibin BinOp.add v13 v14).bind (fun v15 =>
 ((ibin BinOp.shr v15 (Value.int IntKind.u64 32)).bind (fun v16 =>
 ((ibin BinOp.add v15 v16).bind (fun v17 =>
 ((cvt IntKind.i64 v17).bind (fun v18 =>
 ((ibin BinOp.and v18 (I 127)).bind (fun v19 =>
 (some ((SV.one v19), h))))))))))))))))))))))))))))))))))))))))
theorem F258_eq (call : CallT) (N : Nat) (a0 : Value) (h : H) : execF Proofs.Tryz.prog call hints N 258 [(SV.one a0)] h = F258 call N a0 h := by kernel_rfl
-- f9
noncomputable def LP9_0 (call : CallT) (N : Nat) : Nat → List SV → H → Option X := loopIt (fun st h k => exec Proofs.Tryz.prog call N (some Proofs.Tryz.f9.results) (((Proofs.Tryz.f9).body.getD .skip).l2.l2.l2.l2.l2.l1.l2.l1).l1 (hl1 (hl1 (hl2 (hl1 (hl2 (hl2 (hl2 (hl2 (hl2 (hints 9)))))))))) st h k) [(3, Sh.one), (5, Sh.one), (7, Sh.one)] (Join.mk [] [(0, [])]) 50
noncomputable def B9_0 (call : CallT) (N : Nat) (go : List SV → H → Option X) (a34 : Value) (a35 : Value) (a36 : Value) (h : H) : Option X :=
 ((lenS a34).bind (fun v37 =>
 ((ibin BinOp.lss a36 v37).bind (fun v38 =>
 (condV v38 ((idxS 3 a34 a36).bind (fun v39 =>
 ((pldn (hideL [] h) 3 v39).bind (fun l40 =>
 ((idxS 3 a35 a36).bind (fun v41 =>
 ((pldn (hideL [] h) 3 v41).bind (fun l42 =>
 ((binA BinOp.neq [false, false, false] l40 l42).bind (fun v43 =>
 (condV v43 (some ((Out.ret (SV.one (Value.bool false))), ([], h))) ((ibin BinOp.add a36 (I 1)).bind (fun v44 =>
 (go [(SV.one a34), (SV.one a35), (SV.one v44)] h)))))))))))))) (some ((Out.exit 0), ([], h))))))))
theorem LP9_0_succ (call : CallT) (N m : Nat) (a34 : Value) (a35 : Value) (a36 : Value) (h : H) : LP9_0 call N (m + 1) [(SV.one a34), (SV.one a35), (SV.one a36)] h = B9_0 call N (LP9_0 call N m) a34 a35 a36 h := by kernel_rfl
noncomputable def F9 (call : CallT) (N : Nat) (a0 : Value) (h : H) : Option (SV × H) :=
 ((lenS a0).bind (fun v1 =>
 ((ibin BinOp.gtr v1 (I 80)).bind (fun v2 =>
 (condV v2 ((call (Fn.func 16) [] h).bind (fun r3 =>
 (un1 r3.1 (fun v4 =>
 (some ((SV.one v4), r3.2)))))) ((H.appS (H.new h (Blk.cells [] 81 true)) 3 81 a0 (slc h.next 0 0 0)).bind (fun r5 =>
 ((call (Fn.func 38) [(SV.one r5.1)] r5.2).bind (fun r6 =>
 (unT r6.1 (fun l7 =>
 (unCons l7 (fun x8 l9 =>
 (un1 x8 (fun v10 =>
 (unCons l9 (fun x11 l12 =>
 (un1 x11 (fun v13 =>
 (unNil l12 ((call (Fn.func 39) [(SV.one a0)] r6.2).bind (fun r14 =>
 (unT r14.1 (fun l15 =>
 (unCons l15 (fun x16 l17 =>
 (un1 x16 (fun v18 =>
 (unCons l17 (fun x19 l20 =>
 (un1 x19 (fun v21 =>
 (unNil l20 ((lenS v10).bind (fun v22 =>
 ((lenS v18).bind (fun v23 =>
 ((ibin BinOp.neq v22 v23).bind (fun v24 =>
 ((gsel v24 false ((ibin BinOp.neq v13 v21).bind (fun v25 =>
 (some (v25, r14.2)))) (some ((Value.bool true), r14.2))).bind (fun r26 =>
 (condV r26.1 (some ((SV.one (Value.bool false)), r26.2)) ((LP9_0 call N N [(SV.one v10), (SV.one v18), (SV.one (I 0))] r26.2).bind (fun r27 =>
 (outc r27.1 (unNil r27.2.1 ((call (Fn.func 16) [] r27.2.2).bind (fun r28 =>
 (un1 r28.1 (fun v29 =>
 (some ((SV.one v29), r28.2))))))) (fun i30 =>
 (ifN i30 0 (unNil r27.2.1 ((call (Fn.func 16) [] r27.2.2).bind (fun r31 =>
 (un1 r31.1 (fun v32 =>
 (some ((SV.one v32), r31.2))))))) none)) (fun x33 =>
 (some (x33, r27.2.2))))))))))))))))))))))))))))))))))))))))))))))))
theorem F9_eq (call : CallT) (N : Nat) (a0 : Value) (h : H) : execF Proofs.Tryz.prog call hints N 9 [(SV.one a0)] h = F9 call N a0 h := by kernel_rfl
-- f10
noncomputable def LP10_1 (call : CallT) (N : Nat) : Nat → List SV → H → Option X := loopIt (fun st h k => exec Proofs.Tryz.prog call N (some Proofs.Tryz.f10.results) (((Proofs.Tryz.f10).body.getD .skip).l2.l2.l2.l2.l2.l1.l2.l1.l1.l2.l1.l1.l2.l2.l2.l1.l2.l1).l1 (hl1 (hl1 (hl2 (hl1 (hl2 (hl2 (hl2 (hl1 (hl1 (hl2 (hl1 (hl1 (hl2 (hl1 (hl2 (hl2 (hl2 (hl2 (hl2 (hints 10)))))))))))))))))))) st h k) [(0, Sh.one), (3, Sh.one), (5, Sh.one), (6, Sh.one), (7, Sh.one), (8, Sh.one)] (Join.mk [] [(2, [(0, Sh.one), (3, Sh.one), (5, Sh.one), (6, Sh.one), (7, Sh.one)])]) 203
noncomputable def B10_1 (call : CallT) (N : Nat) (go : List SV → H → Option X) (a166 : Value) (a167 : Value) (a168 : Value) (a169 : Value) (a170 : Value) (a171 : Value) (h : H) : Option X :=
 ((lenS a166).bind (fun v172 =>
 ((ibin BinOp.lss a171 v172).bind (fun v173 =>
 (condV v173 (((idxS 1 a168 a171).bind (fun v174 =>
 ((pld (hideL [] h) v174).bind (fun v175 =>
 ((gateS (SV.one v175) false (some ((some (SV.one a171)), h)) (some (none, h))).bind (fun r176 =>
 ((gateS (SV.one v175) false ((padd 0 a170).bind (fun v177 =>
 (some ((some (SV.one v177)), r176.2)))) (some (none, r176.2))).bind (fun r178 =>
 ((gateS (SV.one v175) false (un1 (ovS r178.1) (fun v179 =>
 ((pld (hideL [] r178.2) v179).bind (fun v180 =>
 (some ((some (SV.one v180)), r178.2)))))) (some (none, r178.2))).bind (fun r181 =>
 ((gateS (SV.one v175) false (un1 (ovS r176.1) (fun v182 =>
 (un1 (ovS r181.1) (fun v183 =>
 ((ibin BinOp.eql v182 v183).bind (fun v184 =>
 (some ((some (SV.one v184)), r181.2)))))))) (some (none, r181.2))).bind (fun r185 =>
 ((pickV v175 (some (SV.one (Value.bool true))) (some (ovS r185.1))).bind (fun v186 =>
 ((gateS (SV.one v186) false (some ((some (SV.one a171)), r185.2)) (some (none, r185.2))).bind (fun r187 =>
 ((gateS (SV.one v186) false ((padd 1 a170).bind (fun v188 =>
 (some ((some (SV.one v188)), r187.2)))) (some (none, r187.2))).bind (fun r189 =>
 ((gateS (SV.one v186) false (un1 (ovS r189.1) (fun v190 =>
 ((pld (hideL [] r189.2) v190).bind (fun v191 =>
 (some ((some (SV.one v191)), r189.2)))))) (some (none, r189.2))).bind (fun r192 =>
 ((gateS (SV.one v186) false (un1 (ovS r187.1) (fun v193 =>
 (un1 (ovS r192.1) (fun v194 =>
 ((ibin BinOp.eql v193 v194).bind (fun v195 =>
 (some ((some (SV.one v195)), r192.2)))))))) (some (none, r192.2))).bind (fun r196 =>
 ((pickV v186 (some (SV.one (Value.bool true))) (some (ovS r196.1))).bind (fun v197 =>
 ((gateS (SV.one v197) false (some ((some (SV.one a166)), r196.2)) (some (none, r196.2))).bind (fun r198 =>
 ((gateS (SV.one v197) false (some ((some (SV.one a171)), r198.2)) (some (none, r198.2))).bind (fun r199 =>
 ((gateS (SV.one v197) false (un1 (ovS r198.1) (fun v200 =>
 (un1 (ovS r199.1) (fun v201 =>
 ((idxS 3 v200 v201).bind (fun v202 =>
 (some ((some (SV.one v202)), r199.2)))))))) (some (none, r199.2))).bind (fun r203 =>
 ((gateS (SV.one v197) false (un1 (ovS r203.1) (fun v204 =>
 ((padd 0 v204).bind (fun v205 =>
 (some ((some (SV.one v205)), r203.2)))))) (some (none, r203.2))).bind (fun r206 =>
 ((gateS (SV.one v197) false (un1 (ovS r206.1) (fun v207 =>
 ((pld (hideL [] r206.2) v207).bind (fun v208 =>
 (some ((some (SV.one v208)), r206.2)))))) (some (none, r206.2))).bind (fun r209 =>
 ((gateS (SV.one v197) false ((padd 2 a170).bind (fun v210 =>
 (some ((some (SV.one v210)), r209.2)))) (some (none, r209.2))).bind (fun r211 =>
 ((gateS (SV.one v197) false (un1 (ovS r211.1) (fun v212 =>
 ((pld (hideL [] r211.2) v212).bind (fun v213 =>
 (some ((some (SV.one v213)), r211.2)))))) (some (none, r211.2))).bind (fun r214 =>
 ((gateS (SV.one v197) false (un1 (ovS r209.1) (fun v215 =>
 (un1 (ovS r214.1) (fun v216 =>
 ((ibin BinOp.geq v215 v216).bind (fun v217 =>
 (some ((some (SV.one v217)), r214.2)))))))) (some (none, r214.2))).bind (fun r218 =>
 ((pickV v197 (some (SV.one (Value.bool true))) (some (ovS r218.1))).bind (fun v219 =>
 (condV v219 (some (Out.normal, ([(SV.one a166), (SV.one a167), (SV.one a168), (SV.one a169), (SV.one a170), (SV.one a171)], r218.2))) ((idxS 3 a166 a171).bind (fun v220 =>
 ((padd 1 v220).bind (fun v221 =>
 ((pld (hideL [] r218.2) v221).bind (fun v222 =>
 ((ibin BinOp.eql v222 (I 1)).bind (fun v223 =>
 ((gateS (SV.one v223) true (some ((some (SV.one a166)), r218.2)) (some (none, r218.2))).bind (fun r224 =>
 ((gateS (SV.one v223) true (some ((some (SV.one a171)), r224.2)) (some (none, r224.2))).bind (fun r225 =>
 ((gateS (SV.one v223) true (un1 (ovS r224.1) (fun v226 =>
 (un1 (ovS r225.1) (fun v227 =>
 ((idxS 3 v226 v227).bind (fun v228 =>
 (some ((some (SV.one v228)), r225.2)))))))) (some (none, r225.2))).bind (fun r229 =>
 ((gateS (SV.one v223) true (un1 (ovS r229.1) (fun v230 =>
 ((pldn (hideL [] r229.2) 3 v230).bind (fun l231 =>
 (some ((some (SV.agg l231)), r229.2)))))) (some (none, r229.2))).bind (fun r232 =>
 ((gateS (SV.one v223) true (some ((some (SV.one a166)), r232.2)) (some (none, r232.2))).bind (fun r233 =>
 ((gateS (SV.one v223) true ((padd 1 a170).bind (fun v234 =>
 (some ((some (SV.one v234)), r233.2)))) (some (none, r233.2))).bind (fun r235 =>
 ((gateS (SV.one v223) true (un1 (ovS r235.1) (fun v236 =>
 ((pld (hideL [] r235.2) v236).bind (fun v237 =>
 (some ((some (SV.one v237)), r235.2)))))) (some (none, r235.2))).bind (fun r238 =>
 ((gateS (SV.one v223) true (un1 (ovS r233.1) (fun v239 =>
 (un1 (ovS r238.1) (fun v240 =>
 ((idxS 3 v239 v240).bind (fun v241 =>
 (some ((some (SV.one v241)), r238.2)))))))) (some (none, r238.2))).bind (fun r242 =>
 ((gateS (SV.one v223) true (un1 (ovS r242.1) (fun v243 =>
 ((pldn (hideL [] r242.2) 3 v243).bind (fun l244 =>
 (some ((some (SV.agg l244)), r242.2)))))) (some (none, r242.2))).bind (fun r245 =>
 ((gateS (SV.one v223) true ((call (Fn.func 40) [(ovS r232.1), (ovS r245.1)] (frzL [] (hideL [] r245.2))).bind (fun r246 =>
 (un1 r246.1 (fun v247 =>
 (some ((some (SV.one v247)), (thawL [] r245.2 r246.2))))))) (some (none, r245.2))).bind (fun r248 =>
 ((pickV v223 (some (ovS r248.1)) (some (SV.one (Value.bool false)))).bind (fun v249 =>
 ((gateS (SV.one v249) false (some ((some (SV.one a166)), r248.2)) (some (none, r248.2))).bind (fun r250 =>
 ((gateS (SV.one v249) false (some ((some (SV.one a171)), r250.2)) (some (none, r250.2))).bind (fun r251 =>
 ((gateS (SV.one v249) false (un1 (ovS r250.1) (fun v252 =>
 (un1 (ovS r251.1) (fun v253 =>
 ((idxS 3 v252 v253).bind (fun v254 =>
 (some ((some (SV.one v254)), r251.2)))))))) (some (none, r251.2))).bind (fun r255 =>
 ((gateS (SV.one v249) false (un1 (ovS r255.1) (fun v256 =>
 ((padd 1 v256).bind (fun v257 =>
 (some ((some (SV.one v257)), r255.2)))))) (some (none, r255.2))).bind (fun r258 =>
 ((gateS (SV.one v249) false (un1 (ovS r258.1) (fun v259 =>
 ((pld (hideL [] r258.2) v259).bind (fun v260 =>
 (some ((some (SV.one v260)), r258.2)))))) (some (none, r258.2))).bind (fun r261 =>
 ((gateS (SV.one v249) false (un1 (ovS r261.1) (fun v262 =>
 ((ibin BinOp.eql v262 (I 2)).bind (fun v263 =>
 (some ((some (SV.one v263)), r261.2)))))) (some (none, r261.2))).bind (fun r264 =>
 ((gateS (SV.one v249) false (some ((some (ovS r264.1)), r264.2)) (some (none, r264.2))).bind (fun r265 =>
 ((gateS (ovS r265.1) true (some ((some (SV.one a166)), r265.2)) (some (none, r265.2))).bind (fun r266 =>
 ((gateS (ovS r265.1) true ((padd 0 a170).bind (fun v267 =>
 (some ((some (SV.one v267)), r266.2)))) (some (none, r266.2))).bind (fun r268 =>
 ((gateS (ovS r265.1) true (un1 (ovS r268.1) (fun v269 =>
 ((pld (hideL [] r268.2) v269).bind (fun v270 =>
 (some ((some (SV.one v270)), r268.2)))))) (some (none, r268.2))).bind (fun r271 =>
 ((gateS (ovS r265.1) true (un1 (ovS r266.1) (fun v272 =>
 (un1 (ovS r271.1) (fun v273 =>
 ((idxS 3 v272 v273).bind (fun v274 =>
 (some ((some (SV.one v274)), r271.2)))))))) (some (none, r271.2))).bind (fun r275 =>
 ((gateS (ovS r265.1) true (un1 (ovS r275.1) (fun v276 =>
 ((pldn (hideL [] r275.2) 3 v276).bind (fun l277 =>
 (some ((some (SV.agg l277)), r275.2)))))) (some (none, r275.2))).bind (fun r278 =>
 ((gateS (ovS r265.1) true (some ((some (SV.one a166)), r278.2)) (some (none, r278.2))).bind (fun r279 =>
 ((gateS (ovS r265.1) true (some ((some (SV.one a171)), r279.2)) (some (none, r279.2))).bind (fun r280 =>
 ((gateS (ovS r265.1) true (un1 (ovS r279.1) (fun v281 =>
 (un1 (ovS r280.1) (fun v282 =>
 ((idxS 3 v281 v282).bind (fun v283 =>
 (some ((some (SV.one v283)), r280.2)))))))) (some (none, r280.2))).bind (fun r284 =>
 ((gateS (ovS r265.1) true (un1 (ovS r284.1) (fun v285 =>
 ((pldn (hideL [] r284.2) 3 v285).bind (fun l286 =>
 (some ((some (SV.agg l286)), r284.2)))))) (some (none, r284.2))).bind (fun r287 =>
 ((gateS (ovS r265.1) true ((call (Fn.func 40) [(ovS r278.1), (ovS r287.1)] (frzL [] (hideL [] r287.2))).bind (fun r288 =>
 (un1 r288.1 (fun v289 =>
 (some ((some (SV.one v289)), (thawL [] r287.2 r288.2))))))) (some (none, r287.2))).bind (fun r290 =>
 ((gateS (SV.one v249) false (un1 (ovS r265.1) (fun v291 =>
 ((pickV v291 (some (ovS r290.1)) (some (SV.one (Value.bool false)))).bind (fun v292 =>
 (some ((some (SV.one v292)), r290.2)))))) (some (none, r290.2))).bind (fun r293 =>
 ((pickV v249 (some (SV.one (Value.bool true))) (some (ovS r293.1))).bind (fun v294 =>
 (condV v294 (some ((Out.ret (SV.one (Value.bool false))), ([], r293.2))) (some (Out.normal, ([(SV.one a166), (SV.one a167), (SV.one a168), (SV.one a169), (SV.one a170), (SV.one a171)], r293.2))))))))))))))))))))))))))))))))))))))))))))))))))))))))))))))))))))))))))))))))))))))))))))))))))))))))))))))))))).bind (fun r295 =>
 (outc r295.1 (unConD r295.2.1 (fun x296 l297 =>
 (un1 x296 (fun v298 =>
 (unConD l297 (fun x299 l300 =>
 (un1 x299 (fun v301 =>
 (unConD l300 (fun x302 l303 =>
 (un1 x302 (fun v304 =>
 (unConD l303 (fun x305 l306 =>
 (un1 x305 (fun v307 =>
 (unConD l306 (fun x308 l309 =>
 (un1 x308 (fun v310 =>
 (unConD l309 (fun x311 l312 =>
 (un1 x311 (fun v313 =>
 (unNil l312 ((ibin BinOp.add v313 (I 1)).bind (fun v314 =>
 (go [(SV.one v298), (SV.one v301), (SV.one v304), (SV.one v307), (SV.one v310), (SV.one v314)] r295.2.2)))))))))))))))))))))))))))) (fun i315 =>
 none) (fun x316 =>
 (some ((Out.ret x316), ([], r295.2.2))))))) (some ((Out.exit 2), ([(SV.one a166), (SV.one a167), (SV.one a168), (SV.one a169), (SV.one a170)], h))))))))
theorem LP10_1_succ (call : CallT) (N m : Nat) (a166 : Value) (a167 : Value) (a168 : Value) (a169 : Value) (a170 : Value) (a171 : Value) (h : H) : LP10_1 call N (m + 1) [(SV.one a166), (SV.one a167), (SV.one a168), (SV.one a169), (SV.one a170), (SV.one a171)] h = B10_1 call N (LP10_1 call N m) a166 a167 a168 a169 a170 a171 h := by kernel_rfl
noncomputable def LP10_0 (call : CallT) (N : Nat) : Nat → List SV → H → Option X := loopIt (fun st h k => exec Proofs.Tryz.prog call N (some Proofs.Tryz.f10.results) (((Proofs.Tryz.f10).body.getD .skip).l2.l2.l2.l2.l2.l1.l2.l1).l1 (hl1 (hl1 (hl2 (hl1 (hl2 (hl2 (hl2 (hl2 (hl2 (hints 10)))))))))) st h k) [(0, Sh.one), (3, Sh.one), (5, Sh.one), (6, Sh.one)] (Join.mk [] [(0, [])]) 203
noncomputable def B10_0 (call : CallT) (N : Nat) (go : List SV → H → Option X) (a26 : Value) (a27 : Value) (a28 : Value) (a29 : Value) (h : H) : Option X :=
 ((lenS a27).bind (fun v30 =>
 ((ibin BinOp.lss a29 v30).bind (fun v31 =>
 (condV v31 ((idxS 3 a27 a29).bind (fun v32 =>
 ((pldn h 3 v32).bind (fun l33 =>
 (ifLen l33 3 ((pstn (H.new h (Blk.cells [(I 0), (I 0), (I 0)] 77 true)) l33 (ptr h.next 0)).bind (fun h34 =>
 ((padd 0 (ptr h.next 0)).bind (fun v35 =>
 ((pld h34 v35).bind (fun v36 =>
 ((ibin BinOp.lss v36 (I 0)).bind (fun v37 =>
 ((gsel v37 false ((padd 0 (ptr h.next 0)).bind (fun v38 =>
 ((pld h34 v38).bind (fun v39 =>
 ((lenS a26).bind (fun v40 =>
 ((ibin BinOp.geq v39 v40).bind (fun v41 =>
 (some (v41, h34)))))))))) (some ((Value.bool true), h34))).bind (fun r42 =>
 ((gsel r42.1 false ((padd 1 (ptr h.next 0)).bind (fun v43 =>
 ((pld r42.2 v43).bind (fun v44 =>
 ((ibin BinOp.lss v44 (I 0)).bind (fun v45 =>
 (some (v45, r42.2)))))))) (some ((Value.bool true), r42.2))).bind (fun r46 =>
 ((gsel r46.1 false ((padd 1 (ptr h.next 0)).bind (fun v47 =>
 ((pld r46.2 v47).bind (fun v48 =>
 ((lenS a26).bind (fun v49 =>
 ((ibin BinOp.geq v48 v49).bind (fun v50 =>
 (some (v50, r46.2)))))))))) (some ((Value.bool true), r46.2))).bind (fun r51 =>
 ((gsel r51.1 false ((padd 0 (ptr h.next 0)).bind (fun v52 =>
 ((pld r51.2 v52).bind (fun v53 =>
 ((idxS 1 a28 v53).bind (fun v54 =>
 ((pld r51.2 v54).bind (fun v55 =>
 (some (v55, r51.2)))))))))) (some ((Value.bool true), r51.2))).bind (fun r56 =>
 ((gsel r56.1 false ((padd 1 (ptr h.next 0)).bind (fun v57 =>
 ((pld r56.2 v57).bind (fun v58 =>
 ((idxS 1 a28 v58).bind (fun v59 =>
 ((pld r56.2 v59).bind (fun v60 =>
 (some (v60, r56.2)))))))))) (some ((Value.bool true), r56.2))).bind (fun r61 =>
 ((gsel r61.1 false ((padd 0 (ptr h.next 0)).bind (fun v62 =>
 ((pld r61.2 v62).bind (fun v63 =>
 ((idxS 3 a26 v63).bind (fun v64 =>
 ((padd 1 v64).bind (fun v65 =>
 ((pld r61.2 v65).bind (fun v66 =>
 ((ibin BinOp.neq v66 (I 1)).bind (fun v67 =>
 (some (v67, r61.2)))))))))))))) (some ((Value.bool true), r61.2))).bind (fun r68 =>
 ((gsel r68.1 false ((padd 1 (ptr h.next 0)).bind (fun v69 =>
 ((pld r68.2 v69).bind (fun v70 =>
 ((idxS 3 a26 v70).bind (fun v71 =>
 ((padd 1 v71).bind (fun v72 =>
 ((pld r68.2 v72).bind (fun v73 =>
 ((ibin BinOp.neq v73 (I 2)).bind (fun v74 =>
 (some (v74, r68.2)))))))))))))) (some ((Value.bool true), r68.2))).bind (fun r75 =>
 (condV r75.1 (some ((Out.ret (SV.one (Value.bool false))), ([], r75.2))) ((padd 0 (ptr h.next 0)).bind (fun v76 =>
 ((pld (hideL [] r75.2) v76).bind (fun v77 =>
 ((idxS 3 a26 v77).bind (fun v78 =>
 ((pldn (hideL [] r75.2) 3 v78).bind (fun l79 =>
 ((padd 1 (ptr h.next 0)).bind (fun v80 =>
 ((pld (hideL [] r75.2) v80).bind (fun v81 =>
 ((idxS 3 a26 v81).bind (fun v82 =>
 ((pldn (hideL [] r75.2) 3 v82).bind (fun l83 =>
 ((call (Fn.func 40) [(SV.agg l79), (SV.agg l83)] (frzL [] (hideL [] r75.2))).bind (fun r84 =>
 (un1 r84.1 (fun v85 =>
 ((un UnOp.not v85).bind (fun v86 =>
 ((gateS (SV.one v86) false ((padd 2 (ptr h.next 0)).bind (fun v87 =>
 (some ((some (SV.one v87)), (thawL [] r75.2 r84.2))))) (some (none, (thawL [] r75.2 r84.2)))).bind (fun r88 =>
 ((gateS (SV.one v86) false (un1 (ovS r88.1) (fun v89 =>
 ((pld (hideL [] r88.2) v89).bind (fun v90 =>
 (some ((some (SV.one v90)), r88.2)))))) (some (none, r88.2))).bind (fun r91 =>
 ((gateS (SV.one v86) false (some ((some (SV.one a26)), r91.2)) (some (none, r91.2))).bind (fun r92 =>
 ((gateS (SV.one v86) false ((padd 0 (ptr h.next 0)).bind (fun v93 =>
 (some ((some (SV.one v93)), r92.2)))) (some (none, r92.2))).bind (fun r94 =>
 ((gateS (SV.one v86) false (un1 (ovS r94.1) (fun v95 =>
 ((pld (hideL [] r94.2) v95).bind (fun v96 =>
 (some ((some (SV.one v96)), r94.2)))))) (some (none, r94.2))).bind (fun r97 =>
 ((gateS (SV.one v86) false (un1 (ovS r92.1) (fun v98 =>
 (un1 (ovS r97.1) (fun v99 =>
 ((idxS 3 v98 v99).bind (fun v100 =>
 (some ((some (SV.one v100)), r97.2)))))))) (some (none, r97.2))).bind (fun r101 =>
 ((gateS (SV.one v86) false (un1 (ovS r101.1) (fun v102 =>
 ((padd 0 v102).bind (fun v103 =>
 (some ((some (SV.one v103)), r101.2)))))) (some (none, r101.2))).bind (fun r104 =>
 ((gateS (SV.one v86) false (un1 (ovS r104.1) (fun v105 =>
 ((pld (hideL [] r104.2) v105).bind (fun v106 =>
 (some ((some (SV.one v106)), r104.2)))))) (some (none, r104.2))).bind (fun r107 =>
 ((gateS (SV.one v86) false (un1 (ovS r91.1) (fun v108 =>
 (un1 (ovS r107.1) (fun v109 =>
 ((ibin BinOp.lss v108 v109).bind (fun v110 =>
 (some ((some (SV.one v110)), r107.2)))))))) (some (none, r107.2))).bind (fun r111 =>
 ((pickV v86 (some (SV.one (Value.bool true))) (some (ovS r111.1))).bind (fun v112 =>
 ((gateS (SV.one v112) false ((padd 2 (ptr h.next 0)).bind (fun v113 =>
 (some ((some (SV.one v113)), r111.2)))) (some (none, r111.2))).bind (fun r114 =>
 ((gateS (SV.one v112) false (un1 (ovS r114.1) (fun v115 =>
 ((pld (hideL [] r114.2) v115).bind (fun v116 =>
 (some ((some (SV.one v116)), r114.2)))))) (some (none, r114.2))).bind (fun r117 =>
 ((gateS (SV.one v112) false (some ((some (SV.one a26)), r117.2)) (some (none, r117.2))).bind (fun r118 =>
 ((gateS (SV.one v112) false ((padd 1 (ptr h.next 0)).bind (fun v119 =>
 (some ((some (SV.one v119)), r118.2)))) (some (none, r118.2))).bind (fun r120 =>
 ((gateS (SV.one v112) false (un1 (ovS r120.1) (fun v121 =>
 ((pld (hideL [] r120.2) v121).bind (fun v122 =>
 (some ((some (SV.one v122)), r120.2)))))) (some (none, r120.2))).bind (fun r123 =>
 ((gateS (SV.one v112) false (un1 (ovS r118.1) (fun v124 =>
 (un1 (ovS r123.1) (fun v125 =>
 ((idxS 3 v124 v125).bind (fun v126 =>
 (some ((some (SV.one v126)), r123.2)))))))) (some (none, r123.2))).bind (fun r127 =>
 ((gateS (SV.one v112) false (un1 (ovS r127.1) (fun v128 =>
 ((padd 0 v128).bind (fun v129 =>
 (some ((some (SV.one v129)), r127.2)))))) (some (none, r127.2))).bind (fun r130 =>
 ((gateS (SV.one v112) false (un1 (ovS r130.1) (fun v131 =>
 ((pld (hideL [] r130.2) v131).bind (fun v132 =>
 (some ((some (SV.one v132)), r130.2)))))) (some (none, r130.2))).bind (fun r133 =>
 ((gateS (SV.one v112) false (un1 (ovS r117.1) (fun v134 =>
 (un1 (ovS r133.1) (fun v135 =>
 ((ibin BinOp.lss v134 v135).bind (fun v136 =>
 (some ((some (SV.one v136)), r133.2)))))))) (some (none, r133.2))).bind (fun r137 =>
 ((pickV v112 (some (SV.one (Value.bool true))) (some (ovS r137.1))).bind (fun v138 =>
 (condV v138 (some ((Out.ret (SV.one (Value.bool false))), ([], r137.2))) ((LP10_1 call N N [(SV.one a26), (SV.one a27), (SV.one a28), (SV.one a29), (SV.one (ptr h.next 0)), (SV.one (I 0))] r137.2).bind (fun r139 =>
 (outc r139.1 (unNil r139.2.1 none) (fun i140 =>
 (ifN i140 2 (unConD r139.2.1 (fun x141 l142 =>
 (un1 x141 (fun v143 =>
 (unConD l142 (fun x144 l145 =>
 (un1 x144 (fun v146 =>
 (unConD l145 (fun x147 l148 =>
 (un1 x147 (fun v149 =>
 (unConD l148 (fun x150 l151 =>
 (un1 x150 (fun v152 =>
 (unConD l151 (fun x153 l154 =>
 (un1 x153 (fun v155 =>
 (unNil l154 ((padd 0 v155).bind (fun v156 =>
 ((pld r139.2.2 v156).bind (fun v157 =>
 ((idxS 1 v149 v157).bind (fun v158 =>
 ((pst r139.2.2 (Value.bool true) v158).bind (fun h159 =>
 ((padd 1 v155).bind (fun v160 =>
 ((pld h159 v160).bind (fun v161 =>
 ((idxS 1 v149 v161).bind (fun v162 =>
 ((pst h159 (Value.bool true) v162).bind (fun h163 =>
 ((ibin BinOp.add v152 (I 1)).bind (fun v164 =>
 (go [(SV.one v143), (SV.one v146), (SV.one v149), (SV.one v164)] h163)))))))))))))))))))))))))))))))))))))))) none)) (fun x165 =>
 (some ((Out.ret x165), ([], r139.2.2)))))))))))))))))))))))))))))))))))))))))))))))))))))))))))))))))))))))))))))))))))))))))))))))))) (some ((Out.exit 0), ([], h))))))))
theorem LP10_0_succ (call : CallT) (N m : Nat) (a26 : Value) (a27 : Value) (a28 : Value) (a29 : Value) (h : H) : LP10_0 call N (m + 1) [(SV.one a26), (SV.one a27), (SV.one a28), (SV.one a29)] h = B10_0 call N (LP10_0 call N m) a26 a27 a28 a29 h := by kernel_rfl
noncomputable def F10 (call : CallT) (N : Nat) (a0 : Value) (h : H) : Option (SV × H) :=
 ((lenS a0).bind (fun v1 =>
 ((ibin BinOp.gtr v1 (I 80)).bind (fun v2 =>
 (condV v2 ((call (Fn.func 16) [] h).bind (fun r3 =>
 (un1 r3.1 (fun v4 =>
 (some ((SV.one v4), r3.2)))))) ((H.appS (H.new h (Blk.cells [] 81 true)) 3 81 a0 (slc h.next 0 0 0)).bind (fun r5 =>
 ((call (Fn.func 38) [(SV.one r5.1)] r5.2).bind (fun r6 =>
 (unT r6.1 (fun l7 =>
 (unCons l7 (fun x8 l9 =>
 (un1 x8 (fun v10 =>
 (unCons l9 (fun x11 l12 =>
 (un1 x11 (fun v13 =>
 (unNil l12 ((ibin BinOp.neq v13 (I 0)).bind (fun v14 =>
 (condV v14 ((call (Fn.func 16) [] r6.2).bind (fun r15 =>
 (un1 r15.1 (fun v16 =>
 (some ((SV.one v16), r15.2)))))) ((lenS a0).bind (fun v17 =>
 ((H.mkS r6.2 [(Value.bool false)] 4 v17 v17).bind (fun r18 =>
 ((LP10_0 call N N [(SV.one a0), (SV.one v10), (SV.one r18.1), (SV.one (I 0))] r18.2).bind (fun r19 =>
 (outc r19.1 (unNil r19.2.1 ((call (Fn.func 16) [] r19.2.2).bind (fun r20 =>
 (un1 r20.1 (fun v21 =>
 (some ((SV.one v21), r20.2))))))) (fun i22 =>
 (ifN i22 0 (unNil r19.2.1 ((call (Fn.func 16) [] r19.2.2).bind (fun r23 =>
 (un1 r23.1 (fun v24 =>
 (some ((SV.one v24), r23.2))))))) none)) (fun x25 =>
 (some (x25, r19.2.2)))))))))))))))))))))))))))))))))
theorem F10_eq (call : CallT) (N : Nat) (a0 : Value) (h : H) : execF Proofs.Tryz.prog call hints N 10 [(SV.one a0)] h = F10 call N a0 h := by kernel_rfl
end Go.Wz

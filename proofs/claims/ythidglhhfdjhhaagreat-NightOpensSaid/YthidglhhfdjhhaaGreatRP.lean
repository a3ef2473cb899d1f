import Derived.Test.YthidglhhfdjhhaaGreatR0
set_option linter.unusedVariables false
set_option maxRecDepth 100000
namespace Go.Wz
open Go
-- f18
noncomputable def F18 (call : CallT) (N : Nat) (as0 : List Value) (h : H) : Option (SV × H) :=
 ((pldn (H.new h (Blk.cells as0 35 true)) 14 (ptr h.next 0)).bind (fun l1 =>
 ((call (Fn.func 20) [(SV.agg l1)] (H.new h (Blk.cells as0 35 true))).bind (fun r2 =>
 (un1 r2.1 (fun v3 =>
 ((ibin BinOp.neq v3 (I 0)).bind (fun v4 =>
 (condV v4 (some ((SV.tup [(SV.one (Value.slice none 0 0)), (SV.one v3)]), r2.2)) ((pldn r2.2 14 (ptr h.next 0)).bind (fun l5 =>
 ((call (Fn.func 49) [(SV.agg l5)] r2.2).bind (fun r6 =>
 (un1 r6.1 (fun v7 =>
 (some ((SV.tup [(SV.one v7), (SV.one (I 0))]), r6.2)))))))))))))))))
theorem F18_eq (call : CallT) (N : Nat) (as0 : List Value) (h : H) : execF Proofs.Tryz.prog call hints N 18 [(SV.agg as0)] h = F18 call N as0 h := by kernel_rfl
-- f20
noncomputable def F20 (call : CallT) (N : Nat) (as0 : List Value) (h : H) : Option (SV × H) :=
 ((padd 0 (ptr h.next 0)).bind (fun v1 =>
 ((pldn (H.new h (Blk.cells as0 35 true)) 2 v1).bind (fun l2 =>
 ((call (Fn.func 51) [(SV.agg l2), (SV.one (Value.slice none 0 0))] (H.new h (Blk.cells as0 35 true))).bind (fun r3 =>
 (un1 r3.1 (fun v4 =>
 ((ibin BinOp.neq v4 (I 0)).bind (fun v5 =>
 (condV v5 (some ((SV.one v4), r3.2)) ((padd 2 (ptr h.next 0)).bind (fun v6 =>
 ((pldn r3.2 3 v6).bind (fun l7 =>
 ((padd 5 (ptr h.next 0)).bind (fun v8 =>
 ((pld r3.2 v8).bind (fun v9 =>
 ((call (Fn.func 52) [(SV.agg l7), (SV.one v9)] r3.2).bind (fun r10 =>
 (unT r10.1 (fun l11 =>
 (unCons l11 (fun x12 l13 =>
 (un1 x12 (fun v14 =>
 (unCons l13 (fun x15 l16 =>
 (un1 x15 (fun v17 =>
 (unNil l16 ((ibin BinOp.neq v17 (I 0)).bind (fun v18 =>
 (condV v18 (some ((SV.one v17), r10.2)) ((padd 7 (ptr h.next 0)).bind (fun v19 =>
 ((pldn r10.2 5 v19).bind (fun l20 =>
 ((call (Fn.func 53) [(SV.agg l20)] r10.2).bind (fun r21 =>
 (un1 r21.1 (fun v22 =>
 ((ibin BinOp.neq v22 (I 0)).bind (fun v23 =>
 (condV v23 (some ((SV.one v22), r21.2)) ((padd 0 (ptr h.next 0)).bind (fun v24 =>
 ((padd 0 v24).bind (fun v25 =>
 ((pld r21.2 v25).bind (fun v26 =>
 ((lenS v26).bind (fun v27 =>
 ((padd 2 (ptr h.next 0)).bind (fun v28 =>
 ((padd 2 v28).bind (fun v29 =>
 ((pld r21.2 v29).bind (fun v30 =>
 ((lenS v30).bind (fun v31 =>
 ((ibin BinOp.neq v31 v27).bind (fun v32 =>
 ((condV v32 (some (Out.normal, ([(SV.one (ptr h.next 0)), (SV.one (Value.func (Fn.func 54) (Array.mk []) (Array.mk []))), (SV.one v32)], r21.2))) ((padd 7 (ptr h.next 0)).bind (fun v33 =>
 ((padd 1 v33).bind (fun v34 =>
 ((pld r21.2 v34).bind (fun v35 =>
 ((lenS v35).bind (fun v36 =>
 ((ibin BinOp.neq v36 v27).bind (fun v37 =>
 ((condV v37 (some (Out.normal, ([(SV.one (ptr h.next 0)), (SV.one (Value.func (Fn.func 54) (Array.mk []) (Array.mk []))), (SV.one v37)], r21.2))) ((padd 12 (ptr h.next 0)).bind (fun v38 =>
 ((pld r21.2 v38).bind (fun v39 =>
 ((lenS v39).bind (fun v40 =>
 ((ibin BinOp.neq v40 v27).bind (fun v41 =>
 ((condV v41 (some (Out.normal, ([(SV.one (ptr h.next 0)), (SV.one (Value.func (Fn.func 54) (Array.mk []) (Array.mk []))), (SV.one v41)], r21.2))) ((padd 13 (ptr h.next 0)).bind (fun v42 =>
 ((pld r21.2 v42).bind (fun v43 =>
 ((lenS v43).bind (fun v44 =>
 ((ibin BinOp.neq v44 v27).bind (fun v45 =>
 ((condV v45 (some (Out.normal, ([(SV.one (ptr h.next 0)), (SV.one (Value.func (Fn.func 54) (Array.mk []) (Array.mk []))), (SV.one v45)], r21.2))) ((padd 6 (ptr h.next 0)).bind (fun v46 =>
 ((pld r21.2 v46).bind (fun v47 =>
 ((call (Fn.func 56) [(SV.one v47), (SV.one (I 0)), (SV.one (I 10000))] r21.2).bind (fun r48 =>
 (un1 r48.1 (fun v49 =>
 ((un UnOp.not v49).bind (fun v50 =>
 (some (Out.normal, ([(SV.one (ptr h.next 0)), (SV.one (Value.func (Fn.func 54) (Array.mk []) (Array.mk []))), (SV.one v50)], r48.2)))))))))))))).bind (fun r51 =>
 (outc r51.1 (unConD r51.2.1 (fun x52 l53 =>
 (un1 x52 (fun v54 =>
 (unConD l53 (fun x55 l56 =>
 (un1 x55 (fun v57 =>
 (unConD l56 (fun x58 l59 =>
 (un1 x58 (fun v60 =>
 (unNil l59 (some (Out.normal, ([(SV.one v54), (SV.one v57), (SV.one v60)], r51.2.2)))))))))))))))) (fun i61 =>
 none) (fun x62 =>
 (some ((Out.ret x62), ([], r51.2.2)))))))))))))))).bind (fun r63 =>
 (outc r63.1 (unConD r63.2.1 (fun x64 l65 =>
 (un1 x64 (fun v66 =>
 (unConD l65 (fun x67 l68 =>
 (un1 x67 (fun v69 =>
 (unConD l68 (fun x70 l71 =>
 (un1 x70 (fun v72 =>
 (unNil l71 (some (Out.normal, ([(SV.one v66), (SV.one v69), (SV.one v72)], r63.2.2)))))))))))))))) (fun i73 =>
 none) (fun x74 =>
 (some ((Out.ret x74), ([], r63.2.2)))))))))))))))).bind (fun r75 =>
 (outc r75.1 (unConD r75.2.1 (fun x76 l77 =>
 (un1 x76 (fun v78 =>
 (unConD l77 (fun x79 l80 =>
 (un1 x79 (fun v81 =>
 (unConD l80 (fun x82 l83 =>
 (un1 x82 (fun v84 =>
 (unNil l83 (some (Out.normal, ([(SV.one v78), (SV.one v81), (SV.one v84)], r75.2.2)))))))))))))))) (fun i85 =>
 none) (fun x86 =>
 (some ((Out.ret x86), ([], r75.2.2)))))))))))))))))).bind (fun r87 =>
 (outc r87.1 (unConD r87.2.1 (fun x88 l89 =>
 (un1 x88 (fun v90 =>
 (unConD l89 (fun x91 l92 =>
 (un1 x91 (fun v93 =>
 (unConD l92 (fun x94 l95 =>
 (un1 x94 (fun v96 =>
 (unNil l95 (condV v96 (some ((SV.one (I 120)), r87.2.2)) ((padd 12 v90).bind (fun v97 =>
 (sameB v90 v97 ((pld (hideL [] r87.2.2) v97).bind (fun v98 =>
 ((bOf v90).bind (fun i99 =>
 ((callV call v93 [(SV.one (I 200))] (frzL [i99] (hideL [] r87.2.2))).bind (fun r100 =>
 (un1 r100.1 (fun v101 =>
 ((call (Fn.func 57) [(SV.one v98), (SV.one v101)] (frzL [] (hideL [] (thawL [i99] r87.2.2 r100.2)))).bind (fun r102 =>
 (un1 r102.1 (fun v103 =>
 ((condV v103 (some (Out.normal, ([(SV.one v103)], (thawL [] (thawL [i99] r87.2.2 r100.2) r102.2)))) ((padd 13 v90).bind (fun v104 =>
 (sameB v90 v104 ((pld (hideL [] (thawL [] (thawL [i99] r87.2.2 r100.2) r102.2)) v104).bind (fun v105 =>
 ((bOf v90).bind (fun i106 =>
 ((callV call v93 [(SV.one (I 100))] (frzL [i106] (hideL [] (thawL [] (thawL [i99] r87.2.2 r100.2) r102.2)))).bind (fun r107 =>
 (un1 r107.1 (fun v108 =>
 ((call (Fn.func 57) [(SV.one v105), (SV.one v108)] (frzL [] (hideL [] (thawL [i106] (thawL [] (thawL [i99] r87.2.2 r100.2) r102.2) r107.2)))).bind (fun r109 =>
 (un1 r109.1 (fun v110 =>
 (some (Out.normal, ([(SV.one v110)], (thawL [] (thawL [i106] (thawL [] (thawL [i99] r87.2.2 r100.2) r102.2) r107.2) r109.2)))))))))))))))))))).bind (fun r111 =>
 (outc r111.1 (unConD r111.2.1 (fun x112 l113 =>
 (un1 x112 (fun v114 =>
 (unNil l113 (condV v114 (some ((SV.one (I 120)), r111.2.2)) (some ((SV.one (I 0)), r111.2.2)))))))) (fun i115 =>
 none) (fun x116 =>
 (some (x116, r111.2.2))))))))))))))))))))))))))))))))))) (fun i117 =>
 none) (fun x118 =>
 (some (x118, r87.2.2))))))))))))))))))))))))))))))))))))))))))))))))))))))))))))))))))))))
theorem F20_eq (call : CallT) (N : Nat) (as0 : List Value) (h : H) : execF Proofs.Tryz.prog call hints N 20 [(SV.agg as0)] h = F20 call N as0 h := by kernel_rfl
-- f23
noncomputable def LP23_0 (call : CallT) (N : Nat) : Nat → List SV → H → Option X := loopIt (fun st h k => exec Proofs.Tryz.prog call N (some Proofs.Tryz.f23.results) (((Proofs.Tryz.f23).body.getD .skip).l2.l2.l2.l1.l2.l1).l1 (hl1 (hl1 (hl2 (hl1 (hl2 (hl2 (hl2 (hints 23)))))))) st h k) [(2, Sh.one), (6, Sh.one), (8, Sh.one), (23, Sh.one), (24, Sh.one)] (Join.mk [] [(0, [(6, Sh.one)])]) 39
noncomputable def B23_0 (call : CallT) (N : Nat) (go : List SV → H → Option X) (a24 : Value) (a25 : Value) (a26 : Value) (a27 : Value) (a28 : Value) (h : H) : Option X :=
 ((ibin BinOp.lss a28 a27).bind (fun v29 =>
 (condV v29 (((pldn h 4 a26).bind (fun l30 =>
 ((call (Fn.func 63) [(SV.agg l30), (SV.one a28), (SV.one a24)] h).bind (fun r31 =>
 (un1 r31.1 (fun v32 =>
 ((lenS v32).bind (fun v33 =>
 ((ibin BinOp.eql v33 (I 0)).bind (fun v34 =>
 ((condV v34 ((H.appS (H.new r31.2 (Blk.cells [a28] 3 true)) 1 3 (slc r31.2.next 0 1 1) a25).bind (fun r35 =>
 (some (Out.normal, ([(SV.one a24), (SV.one r35.1), (SV.one a26), (SV.one a27), (SV.one a28)], r35.2))))) (some (Out.normal, ([(SV.one a24), (SV.one a25), (SV.one a26), (SV.one a27), (SV.one a28)], r31.2)))).bind (fun r36 =>
 (outc r36.1 (unConD r36.2.1 (fun x37 l38 =>
 (un1 x37 (fun v39 =>
 (unConD l38 (fun x40 l41 =>
 (un1 x40 (fun v42 =>
 (unConD l41 (fun x43 l44 =>
 (un1 x43 (fun v45 =>
 (unConD l44 (fun x46 l47 =>
 (un1 x46 (fun v48 =>
 (unConD l47 (fun x49 l50 =>
 (un1 x49 (fun v51 =>
 (unNil l50 (some (Out.normal, ([(SV.one v39), (SV.one v42), (SV.one v45), (SV.one v48), (SV.one v51)], r36.2.2)))))))))))))))))))))))) (fun i52 =>
 none) (fun x53 =>
 (some ((Out.ret x53), ([], r36.2.2))))))))))))))))).bind (fun r54 =>
 (outc r54.1 (unConD r54.2.1 (fun x55 l56 =>
 (un1 x55 (fun v57 =>
 (unConD l56 (fun x58 l59 =>
 (un1 x58 (fun v60 =>
 (unConD l59 (fun x61 l62 =>
 (un1 x61 (fun v63 =>
 (unConD l62 (fun x64 l65 =>
 (un1 x64 (fun v66 =>
 (unConD l65 (fun x67 l68 =>
 (un1 x67 (fun v69 =>
 (unNil l68 ((ibin BinOp.add v69 (I 1)).bind (fun v70 =>
 (go [(SV.one v57), (SV.one v60), (SV.one v63), (SV.one v66), (SV.one v70)] r54.2.2)))))))))))))))))))))))) (fun i71 =>
 none) (fun x72 =>
 (some ((Out.ret x72), ([], r54.2.2))))))) (some ((Out.exit 0), ([(SV.one a25)], h))))))
theorem LP23_0_succ (call : CallT) (N m : Nat) (a24 : Value) (a25 : Value) (a26 : Value) (a27 : Value) (a28 : Value) (h : H) : LP23_0 call N (m + 1) [(SV.one a24), (SV.one a25), (SV.one a26), (SV.one a27), (SV.one a28)] h = B23_0 call N (LP23_0 call N m) a24 a25 a26 a27 a28 h := by kernel_rfl
noncomputable def F23 (call : CallT) (N : Nat) (as0 : List Value) (a1 : Value) (a2 : Value) (h : H) : Option (SV × H) :=
 ((pldn (H.new h (Blk.cells as0 28 true)) 3 (ptr h.next 0)).bind (fun l3 =>
 ((call (Fn.func 62) [(SV.agg l3), (SV.one a1), (SV.one a2)] (H.new h (Blk.cells as0 28 true))).bind (fun r4 =>
 (unT r4.1 (fun l5 =>
 (unCons l5 (fun x6 l7 =>
 (unA x6 (fun l8 =>
 (unCons l7 (fun x9 l10 =>
 (un1 x9 (fun v11 =>
 (unNil l10 (ifLen l8 4 ((pstn (H.new r4.2 (Blk.cells [(Value.slice none 0 0), (Value.slice none 0 0), (Value.slice none 0 0), (Value.slice none 0 0)] 112 true)) l8 (ptr r4.2.next 0)).bind (fun h12 =>
 ((ibin BinOp.neq v11 (I 0)).bind (fun v13 =>
 (condV v13 (some ((SV.tup [(SV.one (Value.slice none 0 0)), (SV.one v11)]), h12)) ((padd 0 (ptr r4.2.next 0)).bind (fun v14 =>
 ((padd 2 v14).bind (fun v15 =>
 ((pld h12 v15).bind (fun v16 =>
 ((lenS v16).bind (fun v17 =>
 ((LP23_0 call N N [(SV.one a2), (SV.one (Value.slice none 0 0)), (SV.one (ptr r4.2.next 0)), (SV.one v17), (SV.one (I 0))] h12).bind (fun r18 =>
 (outc r18.1 (unNil r18.2.1 none) (fun i19 =>
 (ifN i19 0 (unConD r18.2.1 (fun x20 l21 =>
 (un1 x20 (fun v22 =>
 (unNil l21 (some ((SV.tup [(SV.one v22), (SV.one (I 0))]), r18.2.2))))))) none)) (fun x23 =>
 (some (x23, r18.2.2)))))))))))))))))))))))))))))))))))
theorem F23_eq (call : CallT) (N : Nat) (as0 : List Value) (a1 : Value) (a2 : Value) (h : H) : execF Proofs.Tryz.prog call hints N 23 [(SV.agg as0), (SV.one a1), (SV.one a2)] h = F23 call N as0 a1 a2 h := by kernel_rfl
-- f24
noncomputable def F24 (call : CallT) (N : Nat) (as0 : List Value) (a1 : Value) (h : H) : Option (SV × H) :=
 ((pldn (H.new h (Blk.cells as0 33 true)) 5 (ptr h.next 0)).bind (fun l2 =>
 ((call (Fn.func 64) [(SV.agg l2), (SV.one a1)] (H.new h (Blk.cells as0 33 true))).bind (fun r3 =>
 (un1 r3.1 (fun v4 =>
 ((ibin BinOp.neq v4 (I 0)).bind (fun v5 =>
 (condV v5 (some ((SV.tup [(SV.one (I 0)), (SV.one (Value.bool false)), (SV.one v4)]), r3.2)) ((pldn r3.2 5 (ptr h.next 0)).bind (fun l6 =>
 ((call (Fn.func 65) [(SV.agg l6), (SV.one a1)] r3.2).bind (fun r7 =>
 (unT r7.1 (fun l8 =>
 (unCons l8 (fun x9 l10 =>
 (un1 x9 (fun v11 =>
 (unCons l10 (fun x12 l13 =>
 (un1 x12 (fun v14 =>
 (unNil l13 ((un UnOp.not v14).bind (fun v15 =>
 (some ((SV.tup [(SV.one v11), (SV.one v15), (SV.one (I 0))]), r7.2))))))))))))))))))))))))))))
theorem F24_eq (call : CallT) (N : Nat) (as0 : List Value) (a1 : Value) (h : H) : execF Proofs.Tryz.prog call hints N 24 [(SV.agg as0), (SV.one a1)] h = F24 call N as0 a1 h := by kernel_rfl
-- f49
noncomputable def LP49_0 (call : CallT) (N : Nat) : Nat → List SV → H → Option X := loopIt (fun st h k => exec Proofs.Tryz.prog call N (some Proofs.Tryz.f49.results) (((Proofs.Tryz.f49).body.getD .skip).l2.l2.l2.l2.l1.l2.l1).l1 (hl1 (hl1 (hl2 (hl1 (hl2 (hl2 (hl2 (hl2 (hints 49))))))))) st h k) [(1, Sh.one), (2, Sh.one), (5, Sh.one), (23, Sh.one), (24, Sh.one), (25, Sh.one)] (Join.mk [] [(0, [(2, Sh.one)])]) 55
noncomputable def B49_0 (call : CallT) (N : Nat) (go : List SV → H → Option X) (a23 : Value) (a24 : Value) (a25 : Value) (a26 : Value) (a27 : Value) (a28 : Value) (h : H) : Option X :=
 ((ibin BinOp.lss a28 a27).bind (fun v29 =>
 (condV v29 (((idxS 1 a26 a28).bind (fun v30 =>
 ((pld h v30).bind (fun v31 =>
 ((padd 7 a23).bind (fun v32 =>
 ((pldn (hideL [] h) 5 v32).bind (fun l33 =>
 ((ibin BinOp.shl (I 1) v31).bind (fun v34 =>
 ((ibin BinOp.or a25 v34).bind (fun v35 =>
 ((call (Fn.func 24) [(SV.agg l33), (SV.one v35)] (frzL [] (hideL [] h))).bind (fun r36 =>
 (unT r36.1 (fun l37 =>
 (unCons l37 (fun x38 l39 =>
 (un1 x38 (fun v40 =>
 (unCons l39 (fun x41 l42 =>
 (un1 x41 (fun v43 =>
 (unCons l42 (fun x44 l45 =>
 (un1 x44 (fun v46 =>
 (unNil l45 ((ibin BinOp.eql v46 (I 0)).bind (fun v47 =>
 ((gsel v47 true (some (v43, (thawL [] h r36.2))) (some ((Value.bool false), (thawL [] h r36.2)))).bind (fun r48 =>
 ((condV r48.1 ((ibin BinOp.shl (I 1) v31).bind (fun v49 =>
 ((ibin BinOp.or a25 v49).bind (fun v50 =>
 ((H.appS (H.new r48.2 (Blk.cells [v31] 3 true)) 1 3 (slc r48.2.next 0 1 1) a24).bind (fun r51 =>
 (some (Out.normal, ([(SV.one a23), (SV.one r51.1), (SV.one v50), (SV.one a26), (SV.one a27), (SV.one a28)], r51.2))))))))) (some (Out.normal, ([(SV.one a23), (SV.one a24), (SV.one a25), (SV.one a26), (SV.one a27), (SV.one a28)], r48.2)))).bind (fun r52 =>
 (outc r52.1 (unConD r52.2.1 (fun x53 l54 =>
 (un1 x53 (fun v55 =>
 (unConD l54 (fun x56 l57 =>
 (un1 x56 (fun v58 =>
 (unConD l57 (fun x59 l60 =>
 (un1 x59 (fun v61 =>
 (unConD l60 (fun x62 l63 =>
 (un1 x62 (fun v64 =>
 (unConD l63 (fun x65 l66 =>
 (un1 x65 (fun v67 =>
 (unConD l66 (fun x68 l69 =>
 (un1 x68 (fun v70 =>
 (unNil l69 (some (Out.normal, ([(SV.one v55), (SV.one v58), (SV.one v61), (SV.one v64), (SV.one v67), (SV.one v70)], r52.2.2)))))))))))))))))))))))))))) (fun i71 =>
 none) (fun x72 =>
 (some ((Out.ret x72), ([], r52.2.2)))))))))))))))))))))))))))))))))))))))).bind (fun r73 =>
 (outc r73.1 (unConD r73.2.1 (fun x74 l75 =>
 (un1 x74 (fun v76 =>
 (unConD l75 (fun x77 l78 =>
 (un1 x77 (fun v79 =>
 (unConD l78 (fun x80 l81 =>
 (un1 x80 (fun v82 =>
 (unConD l81 (fun x83 l84 =>
 (un1 x83 (fun v85 =>
 (unConD l84 (fun x86 l87 =>
 (un1 x86 (fun v88 =>
 (unConD l87 (fun x89 l90 =>
 (un1 x89 (fun v91 =>
 (unNil l90 ((ibin BinOp.add v91 (I 1)).bind (fun v92 =>
 (go [(SV.one v76), (SV.one v79), (SV.one v82), (SV.one v85), (SV.one v88), (SV.one v92)] r73.2.2)))))))))))))))))))))))))))) (fun i93 =>
 none) (fun x94 =>
 (some ((Out.ret x94), ([], r73.2.2))))))) (some ((Out.exit 0), ([(SV.one a24)], h))))))
theorem LP49_0_succ (call : CallT) (N m : Nat) (a23 : Value) (a24 : Value) (a25 : Value) (a26 : Value) (a27 : Value) (a28 : Value) (h : H) : LP49_0 call N (m + 1) [(SV.one a23), (SV.one a24), (SV.one a25), (SV.one a26), (SV.one a27), (SV.one a28)] h = B49_0 call N (LP49_0 call N m) a23 a24 a25 a26 a27 a28 h := by kernel_rfl
noncomputable def F49 (call : CallT) (N : Nat) (as0 : List Value) (h : H) : Option (SV × H) :=
 ((padd 2 (ptr h.next 0)).bind (fun v1 =>
 ((pldn (H.new h (Blk.cells as0 35 true)) 3 v1).bind (fun l2 =>
 ((padd 5 (ptr h.next 0)).bind (fun v3 =>
 ((pld (H.new h (Blk.cells as0 35 true)) v3).bind (fun v4 =>
 ((padd 6 (ptr h.next 0)).bind (fun v5 =>
 ((pld (H.new h (Blk.cells as0 35 true)) v5).bind (fun v6 =>
 ((call (Fn.func 23) [(SV.agg l2), (SV.one v4), (SV.one v6)] (H.new h (Blk.cells as0 35 true))).bind (fun r7 =>
 (unT r7.1 (fun l8 =>
 (unCons l8 (fun x9 l10 =>
 (un1 x9 (fun v11 =>
 (unCons l10 (fun x12 l13 =>
 (un1 x12 (fun v14 =>
 (unNil l13 ((ibin BinOp.neq v14 (I 0)).bind (fun v15 =>
 (condV v15 (some ((SV.one (Value.slice none 0 0)), r7.2)) ((lenS v11).bind (fun v16 =>
 ((LP49_0 call N N [(SV.one (ptr h.next 0)), (SV.one (Value.slice none 0 0)), (SV.one (I 0)), (SV.one v11), (SV.one v16), (SV.one (I 0))] r7.2).bind (fun r17 =>
 (outc r17.1 (unNil r17.2.1 none) (fun i18 =>
 (ifN i18 0 (unConD r17.2.1 (fun x19 l20 =>
 (un1 x19 (fun v21 =>
 (unNil l20 (some ((SV.one v21), r17.2.2))))))) none)) (fun x22 =>
 (some (x22, r17.2.2))))))))))))))))))))))))))))))))))))
theorem F49_eq (call : CallT) (N : Nat) (as0 : List Value) (h : H) : execF Proofs.Tryz.prog call hints N 49 [(SV.agg as0)] h = F49 call N as0 h := by kernel_rfl
-- f51
noncomputable def F51 (call : CallT) (N : Nat) (as0 : List Value) (a1 : Value) (h : H) : Option (SV × H) :=
 ((pldn (H.new h (Blk.cells as0 24 true)) 2 (ptr h.next 0)).bind (fun l2 =>
 ((call (Fn.func 98) [(SV.agg l2)] (H.new h (Blk.cells as0 24 true))).bind (fun r3 =>
 (un1 r3.1 (fun v4 =>
 ((ibin BinOp.neq v4 (I 0)).bind (fun v5 =>
 (condV v5 (some ((SV.one v4), r3.2)) ((lenS a1).bind (fun v6 =>
 ((ibin BinOp.gtr v6 (I 60)).bind (fun v7 =>
 ((gsel v7 false ((call (Fn.func 102) [(SV.one a1), (SV.one (Value.func (Fn.func 99) (Array.mk []) (Array.mk [(ptr h.next 0)])))] r3.2).bind (fun r8 =>
 (un1 r8.1 (fun v9 =>
 (some (v9, r8.2)))))) (some ((Value.bool true), r3.2))).bind (fun r10 =>
 (condV r10.1 (some ((SV.one (I 71)), r10.2)) (some ((SV.one (I 0)), r10.2))))))))))))))))))
theorem F51_eq (call : CallT) (N : Nat) (as0 : List Value) (a1 : Value) (h : H) : execF Proofs.Tryz.prog call hints N 51 [(SV.agg as0), (SV.one a1)] h = F51 call N as0 a1 h := by kernel_rfl
-- f52
noncomputable def F52 (call : CallT) (N : Nat) (as0 : List Value) (a1 : Value) (h : H) : Option (SV × H) :=
 ((pldn (H.new h (Blk.cells as0 28 true)) 3 (ptr h.next 0)).bind (fun l2 =>
 ((call (Fn.func 103) [(SV.agg l2), (SV.one a1)] (H.new h (Blk.cells as0 28 true))).bind (fun r3 =>
 (unT r3.1 (fun l4 =>
 (unCons l4 (fun x5 l6 =>
 (unA x5 (fun l7 =>
 (unCons l6 (fun x8 l9 =>
 (un1 x8 (fun v10 =>
 (unCons l9 (fun x11 l12 =>
 (un1 x11 (fun v13 =>
 (unNil l12 (some ((SV.tup [(SV.one v10), (SV.one v13)]), r3.2)))))))))))))))))))))
theorem F52_eq (call : CallT) (N : Nat) (as0 : List Value) (a1 : Value) (h : H) : execF Proofs.Tryz.prog call hints N 52 [(SV.agg as0), (SV.one a1)] h = F52 call N as0 a1 h := by kernel_rfl
-- f53
noncomputable def LP53_1 (call : CallT) (N : Nat) : Nat → List SV → H → Option X := loopIt (fun st h k => exec Proofs.Tryz.prog call N (some Proofs.Tryz.f53.results) (((Proofs.Tryz.f53).body.getD .skip).l2.l2.l2.l1.l2.l1).l1 (hl1 (hl1 (hl2 (hl1 (hl2 (hl2 (hl2 (hints 53)))))))) st h k) [(1, Sh.one), (69, Sh.one), (70, Sh.one), (71, Sh.one)] (Join.mk [] [(2, [])]) 102
noncomputable def B53_1 (call : CallT) (N : Nat) (go : List SV → H → Option X) (a76 : Value) (a77 : Value) (a78 : Value) (a79 : Value) (h : H) : Option X :=
 ((ibin BinOp.lss a79 a78).bind (fun v80 =>
 (condV v80 ((idxS 4 a77 a79).bind (fun v81 =>
 ((pldn h 4 v81).bind (fun l82 =>
 (ifLen l82 4 ((pstn (H.new h (Blk.cells [(I 0), (I 0), (I 0), (I 0)] 166 true)) l82 (ptr h.next 0)).bind (fun h83 =>
 ((padd 0 (ptr h.next 0)).bind (fun v84 =>
 ((pld h83 v84).bind (fun v85 =>
 ((padd 0 a76).bind (fun v86 =>
 ((pld h83 v86).bind (fun v87 =>
 ((lenS v87).bind (fun v88 =>
 ((ibin BinOp.sub v88 (I 1)).bind (fun v89 =>
 ((call (Fn.func 104) [(SV.one v85), (SV.one (I 0)), (SV.one v89)] h83).bind (fun r90 =>
 (un1 r90.1 (fun v91 =>
 ((un UnOp.not v91).bind (fun v92 =>
 ((gsel v92 false ((padd 1 (ptr h.next 0)).bind (fun v93 =>
 ((pld r90.2 v93).bind (fun v94 =>
 ((call (Fn.func 104) [(SV.one v94), (SV.one (I 0)), (SV.one (I 2))] r90.2).bind (fun r95 =>
 (un1 r95.1 (fun v96 =>
 ((un UnOp.not v96).bind (fun v97 =>
 (some (v97, r95.2)))))))))))) (some ((Value.bool true), r90.2))).bind (fun r98 =>
 ((gsel r98.1 false ((padd 2 (ptr h.next 0)).bind (fun v99 =>
 ((pld r98.2 v99).bind (fun v100 =>
 ((call (Fn.func 104) [(SV.one v100), (SV.one (I 1)), (SV.one (I 1000))] r98.2).bind (fun r101 =>
 (un1 r101.1 (fun v102 =>
 ((un UnOp.not v102).bind (fun v103 =>
 (some (v103, r101.2)))))))))))) (some ((Value.bool true), r98.2))).bind (fun r104 =>
 ((gsel r104.1 false ((padd 3 (ptr h.next 0)).bind (fun v105 =>
 ((pld r104.2 v105).bind (fun v106 =>
 ((call (Fn.func 104) [(SV.one v106), (SV.one (I 0)), (SV.one (I 1000))] r104.2).bind (fun r107 =>
 (un1 r107.1 (fun v108 =>
 ((un UnOp.not v108).bind (fun v109 =>
 (some (v109, r107.2)))))))))))) (some ((Value.bool true), r104.2))).bind (fun r110 =>
 (condV r110.1 (some ((Out.ret (SV.one (I 50))), ([], r110.2))) ((ibin BinOp.add a79 (I 1)).bind (fun v111 =>
 (go [(SV.one a76), (SV.one a77), (SV.one a78), (SV.one v111)] r110.2))))))))))))))))))))))))))))))))))) (some ((Out.exit 2), ([], h))))))
theorem LP53_1_succ (call : CallT) (N m : Nat) (a76 : Value) (a77 : Value) (a78 : Value) (a79 : Value) (h : H) : LP53_1 call N (m + 1) [(SV.one a76), (SV.one a77), (SV.one a78), (SV.one a79)] h = B53_1 call N (LP53_1 call N m) a76 a77 a78 a79 h := by kernel_rfl
noncomputable def LP53_0 (call : CallT) (N : Nat) : Nat → List SV → H → Option X := loopIt (fun st h k => exec Proofs.Tryz.prog call N (some Proofs.Tryz.f53.results) (((Proofs.Tryz.f53).body.getD .skip).l2.l2.l1.l2.l1).l1 (hl1 (hl1 (hl2 (hl1 (hl2 (hl2 (hints 53))))))) st h k) [(1, Sh.one), (36, Sh.one), (37, Sh.one), (38, Sh.one)] (Join.mk [] [(0, [(1, Sh.one)])]) 102
noncomputable def B53_0 (call : CallT) (N : Nat) (go : List SV → H → Option X) (a43 : Value) (a44 : Value) (a45 : Value) (a46 : Value) (h : H) : Option X :=
 ((ibin BinOp.lss a46 a45).bind (fun v47 =>
 (condV v47 ((idxS 4 a44 a46).bind (fun v48 =>
 ((pldn h 4 v48).bind (fun l49 =>
 (ifLen l49 4 ((pstn (H.new h (Blk.cells [(I 0), (I 0), (I 0), (I 0)] 164 true)) l49 (ptr h.next 0)).bind (fun h50 =>
 ((padd 0 (ptr h.next 0)).bind (fun v51 =>
 ((pld h50 v51).bind (fun v52 =>
 ((ibin BinOp.sub a46 (I 1)).bind (fun v53 =>
 ((call (Fn.func 104) [(SV.one v52), (SV.one (I (-1))), (SV.one v53)] h50).bind (fun r54 =>
 (un1 r54.1 (fun v55 =>
 ((un UnOp.not v55).bind (fun v56 =>
 ((gsel v56 false ((padd 1 (ptr h.next 0)).bind (fun v57 =>
 ((pld r54.2 v57).bind (fun v58 =>
 ((call (Fn.func 104) [(SV.one v58), (SV.one (I 1)), (SV.one (I 1000))] r54.2).bind (fun r59 =>
 (un1 r59.1 (fun v60 =>
 ((un UnOp.not v60).bind (fun v61 =>
 (some (v61, r59.2)))))))))))) (some ((Value.bool true), r54.2))).bind (fun r62 =>
 ((gsel r62.1 false ((padd 2 (ptr h.next 0)).bind (fun v63 =>
 ((pld r62.2 v63).bind (fun v64 =>
 ((call (Fn.func 104) [(SV.one v64), (SV.one (I 0)), (SV.one (I 20))] r62.2).bind (fun r65 =>
 (un1 r65.1 (fun v66 =>
 ((un UnOp.not v66).bind (fun v67 =>
 (some (v67, r65.2)))))))))))) (some ((Value.bool true), r62.2))).bind (fun r68 =>
 ((gsel r68.1 false ((padd 3 (ptr h.next 0)).bind (fun v69 =>
 ((pld r68.2 v69).bind (fun v70 =>
 ((call (Fn.func 104) [(SV.one v70), (SV.one (I 1)), (SV.one (I 10000))] r68.2).bind (fun r71 =>
 (un1 r71.1 (fun v72 =>
 ((un UnOp.not v72).bind (fun v73 =>
 (some (v73, r71.2)))))))))))) (some ((Value.bool true), r68.2))).bind (fun r74 =>
 (condV r74.1 (some ((Out.ret (SV.one (I 50))), ([], r74.2))) ((ibin BinOp.add a46 (I 1)).bind (fun v75 =>
 (go [(SV.one a43), (SV.one a44), (SV.one a45), (SV.one v75)] r74.2))))))))))))))))))))))))))))) (some ((Out.exit 0), ([(SV.one a43)], h))))))
theorem LP53_0_succ (call : CallT) (N m : Nat) (a43 : Value) (a44 : Value) (a45 : Value) (a46 : Value) (h : H) : LP53_0 call N (m + 1) [(SV.one a43), (SV.one a44), (SV.one a45), (SV.one a46)] h = B53_0 call N (LP53_0 call N m) a43 a44 a45 a46 h := by kernel_rfl
noncomputable def F53 (call : CallT) (N : Nat) (as0 : List Value) (h : H) : Option (SV × H) :=
 ((padd 0 (ptr h.next 0)).bind (fun v1 =>
 ((pld (H.new h (Blk.cells as0 33 true)) v1).bind (fun v2 =>
 ((lenS v2).bind (fun v3 =>
 ((ibin BinOp.gtr v3 (I 10)).bind (fun v4 =>
 ((gsel v4 false ((padd 1 (ptr h.next 0)).bind (fun v5 =>
 ((pld (H.new h (Blk.cells as0 33 true)) v5).bind (fun v6 =>
 ((lenS v6).bind (fun v7 =>
 ((ibin BinOp.gtr v7 (I 16)).bind (fun v8 =>
 (some (v8, (H.new h (Blk.cells as0 33 true)))))))))))) (some ((Value.bool true), (H.new h (Blk.cells as0 33 true))))).bind (fun r9 =>
 ((gsel r9.1 false ((padd 2 (ptr h.next 0)).bind (fun v10 =>
 ((pld r9.2 v10).bind (fun v11 =>
 ((call (Fn.func 104) [(SV.one v11), (SV.one (I 1)), (SV.one (I 1000))] r9.2).bind (fun r12 =>
 (un1 r12.1 (fun v13 =>
 ((un UnOp.not v13).bind (fun v14 =>
 (some (v14, r12.2)))))))))))) (some ((Value.bool true), r9.2))).bind (fun r15 =>
 ((gsel r15.1 false ((padd 3 (ptr h.next 0)).bind (fun v16 =>
 ((pld r15.2 v16).bind (fun v17 =>
 ((call (Fn.func 104) [(SV.one v17), (SV.one (I 0)), (SV.one (I 20))] r15.2).bind (fun r18 =>
 (un1 r18.1 (fun v19 =>
 ((un UnOp.not v19).bind (fun v20 =>
 (some (v20, r18.2)))))))))))) (some ((Value.bool true), r15.2))).bind (fun r21 =>
 ((gsel r21.1 false ((padd 4 (ptr h.next 0)).bind (fun v22 =>
 ((pld r21.2 v22).bind (fun v23 =>
 ((call (Fn.func 104) [(SV.one v23), (SV.one (I 1)), (SV.one (I 1000))] r21.2).bind (fun r24 =>
 (un1 r24.1 (fun v25 =>
 ((un UnOp.not v25).bind (fun v26 =>
 (some (v26, r24.2)))))))))))) (some ((Value.bool true), r21.2))).bind (fun r27 =>
 (condV r27.1 (some ((SV.one (I 50)), r27.2)) ((padd 0 (ptr h.next 0)).bind (fun v28 =>
 ((pld r27.2 v28).bind (fun v29 =>
 ((lenS v29).bind (fun v30 =>
 ((LP53_0 call N N [(SV.one (ptr h.next 0)), (SV.one v29), (SV.one v30), (SV.one (I 0))] r27.2).bind (fun r31 =>
 (outc r31.1 (unNil r31.2.1 none) (fun i32 =>
 (ifN i32 0 (unConD r31.2.1 (fun x33 l34 =>
 (un1 x33 (fun v35 =>
 (unNil l34 ((padd 1 v35).bind (fun v36 =>
 ((pld r31.2.2 v36).bind (fun v37 =>
 ((lenS v37).bind (fun v38 =>
 ((LP53_1 call N N [(SV.one v35), (SV.one v37), (SV.one v38), (SV.one (I 0))] r31.2.2).bind (fun r39 =>
 (outc r39.1 (unNil r39.2.1 (some ((SV.one (I 0)), r39.2.2))) (fun i40 =>
 (ifN i40 2 (unNil r39.2.1 (some ((SV.one (I 0)), r39.2.2))) none)) (fun x41 =>
 (some (x41, r39.2.2))))))))))))))))) none)) (fun x42 =>
 (some (x42, r31.2.2)))))))))))))))))))))))))))))
theorem F53_eq (call : CallT) (N : Nat) (as0 : List Value) (h : H) : execF Proofs.Tryz.prog call hints N 53 [(SV.agg as0)] h = F53 call N as0 h := by kernel_rfl
-- f54
noncomputable def F54 (call : CallT) (N : Nat) (a0 : Value) (h : H) : Option (SV × H) :=
 (some ((SV.one (Value.func (Fn.func 55) (Array.mk []) (Array.mk [(ptr h.next 0)]))), (H.new h (Blk.cells [a0] 3 true))))
theorem F54_eq (call : CallT) (N : Nat) (a0 : Value) (h : H) : execF Proofs.Tryz.prog call hints N 54 [(SV.one a0)] h = F54 call N a0 h := by kernel_rfl
-- f55
noncomputable def F55 (call : CallT) (N : Nat) (a0 : Value) (a1 : Value) (h : H) : Option (SV × H) :=
 ((pld h a1).bind (fun v2 =>
 ((call (Fn.func 56) [(SV.one a0), (SV.one (I 0)), (SV.one v2)] h).bind (fun r3 =>
 (un1 r3.1 (fun v4 =>
 ((un UnOp.not v4).bind (fun v5 =>
 (some ((SV.one v5), r3.2))))))))))
theorem F55_eq (call : CallT) (N : Nat) (a0 : Value) (a1 : Value) (h : H) : execF Proofs.Tryz.prog call hints N 55 [(SV.one a0), (SV.one a1)] h = F55 call N a0 a1 h := by kernel_rfl
-- f57
noncomputable def F57 (call : CallT) (N : Nat) (a0 : Value) (a1 : Value) (h : H) : Option (SV × H) :=
 ((call (Fn.func 105) [(SV.one a0), (SV.one a1)] h).bind (fun r2 =>
 (un1 r2.1 (fun v3 =>
 ((ibin BinOp.geq v3 (I 0)).bind (fun v4 =>
 (some ((SV.one v4), r2.2))))))))
theorem F57_eq (call : CallT) (N : Nat) (a0 : Value) (a1 : Value) (h : H) : execF Proofs.Tryz.prog call hints N 57 [(SV.one a0), (SV.one a1)] h = F57 call N a0 a1 h := by kernel_rfl
-- f62
noncomputable def F62 (call : CallT) (N : Nat) (as0 : List Value) (a1 : Value) (a2 : Value) (h : H) : Option (SV × H) :=
 ((pldn (H.new (H.new h (Blk.cells as0 28 true)) (Blk.cells [(Value.slice none 0 0), (Value.slice none 0 0), (Value.slice none 0 0), (Value.slice none 0 0)] 112 true)) 3 (ptr h.next 0)).bind (fun l3 =>
 ((call (Fn.func 103) [(SV.agg l3), (SV.one a1)] (H.new (H.new h (Blk.cells as0 28 true)) (Blk.cells [(Value.slice none 0 0), (Value.slice none 0 0), (Value.slice none 0 0), (Value.slice none 0 0)] 112 true))).bind (fun r4 =>
 (unT r4.1 (fun l5 =>
 (unCons l5 (fun x6 l7 =>
 (unA x6 (fun l8 =>
 (unCons l7 (fun x9 l10 =>
 (un1 x9 (fun v11 =>
 (unCons l10 (fun x12 l13 =>
 (un1 x12 (fun v14 =>
 (unNil l13 (ifLen l8 4 ((pstn (H.new r4.2 (Blk.cells [(Value.slice none 0 0), (Value.slice none 0 0), (Value.slice none 0 0), (Value.slice none 0 0)] 112 true)) l8 (ptr r4.2.next 0)).bind (fun h15 =>
 ((ibin BinOp.neq v14 (I 0)).bind (fun v16 =>
 (condV v16 ((pldn h15 4 (ptr r4.2.next 0)).bind (fun l17 =>
 (ifLen l17 4 ((pstn h15 l17 (ptr (h.next + 1) 0)).bind (fun h18 =>
 ((pldn h18 4 (ptr (h.next + 1) 0)).bind (fun l19 =>
 (some ((SV.tup [(SV.agg l19), (SV.one v14)]), h18))))))))) ((call (Fn.func 111) [(SV.one a2), (SV.one (I 0)), (SV.one (I 10000))] h15).bind (fun r20 =>
 (un1 r20.1 (fun v21 =>
 ((un UnOp.not v21).bind (fun v22 =>
 (condV v22 ((pldn r20.2 4 (ptr r4.2.next 0)).bind (fun l23 =>
 (ifLen l23 4 ((pstn r20.2 l23 (ptr (h.next + 1) 0)).bind (fun h24 =>
 ((pldn h24 4 (ptr (h.next + 1) 0)).bind (fun l25 =>
 (some ((SV.tup [(SV.agg l25), (SV.one (I 1))]), h24))))))))) ((pldn r20.2 4 (ptr r4.2.next 0)).bind (fun l26 =>
 ((call (Fn.func 112) [(SV.agg l26), (SV.one a2)] r20.2).bind (fun r27 =>
 (unA r27.1 (fun l28 =>
 (ifLen l28 4 ((pstn r27.2 l28 (ptr (h.next + 1) 0)).bind (fun h29 =>
 ((pldn h29 4 (ptr (h.next + 1) 0)).bind (fun l30 =>
 (some ((SV.tup [(SV.agg l30), (SV.one (I 0))]), h29)))))))))))))))))))))))))))))))))))))))))))))
theorem F62_eq (call : CallT) (N : Nat) (as0 : List Value) (a1 : Value) (a2 : Value) (h : H) : execF Proofs.Tryz.prog call hints N 62 [(SV.agg as0), (SV.one a1), (SV.one a2)] h = F62 call N as0 a1 a2 h := by kernel_rfl
-- f63
noncomputable def F63 (call : CallT) (N : Nat) (as0 : List Value) (a1 : Value) (a2 : Value) (h : H) : Option (SV × H) :=
 ((pldn (H.new (H.new (H.new h (Blk.cells as0 112 true)) (Blk.cells [a1] 3 true)) (Blk.cells [(Value.slice none 0 0)] 26 true)) 4 (ptr h.next 0)).bind (fun l3 =>
 ((pld (H.new (H.new (H.new h (Blk.cells as0 112 true)) (Blk.cells [a1] 3 true)) (Blk.cells [(Value.slice none 0 0)] 26 true)) (ptr (h.next + 1) 0)).bind (fun v4 =>
 ((call (Fn.func 114) [(SV.agg l3), (SV.one v4)] (H.new (H.new (H.new h (Blk.cells as0 112 true)) (Blk.cells [a1] 3 true)) (Blk.cells [(Value.slice none 0 0)] 26 true))).bind (fun r5 =>
 (un1 r5.1 (fun v6 =>
 ((ibin BinOp.lss v6 a2).bind (fun v7 =>
 ((callV call (Value.func (Fn.func 113) (Array.mk []) (Array.mk [(ptr (h.next + 2) 0)])) [(SV.one (I 1)), (SV.one v7)] r5.2).bind (fun r8 =>
 (unT r8.1 (fun l9 =>
 (unNil l9 ((pldn r8.2 4 (ptr h.next 0)).bind (fun l10 =>
 ((pld r8.2 (ptr (h.next + 1) 0)).bind (fun v11 =>
 ((call (Fn.func 115) [(SV.agg l10), (SV.one v11)] r8.2).bind (fun r12 =>
 (un1 r12.1 (fun v13 =>
 ((un UnOp.not v13).bind (fun v14 =>
 ((callV call (Value.func (Fn.func 113) (Array.mk []) (Array.mk [(ptr (h.next + 2) 0)])) [(SV.one (I 2)), (SV.one v14)] r12.2).bind (fun r15 =>
 (unT r15.1 (fun l16 =>
 (unNil l16 ((pldn r15.2 4 (ptr h.next 0)).bind (fun l17 =>
 ((pld r15.2 (ptr (h.next + 1) 0)).bind (fun v18 =>
 ((call (Fn.func 116) [(SV.agg l17), (SV.one v18), (SV.one (Value.func (Fn.func 117) (Array.mk []) (Array.mk [(ptr (h.next + 1) 0)])))] r15.2).bind (fun r19 =>
 (un1 r19.1 (fun v20 =>
 ((ibin BinOp.neq v20 a2).bind (fun v21 =>
 ((callV call (Value.func (Fn.func 113) (Array.mk []) (Array.mk [(ptr (h.next + 2) 0)])) [(SV.one (I 3)), (SV.one v21)] r19.2).bind (fun r22 =>
 (unT r22.1 (fun l23 =>
 (unNil l23 ((pldn r22.2 4 (ptr h.next 0)).bind (fun l24 =>
 ((pld r22.2 (ptr (h.next + 1) 0)).bind (fun v25 =>
 ((call (Fn.func 118) [(SV.agg l24), (SV.one v25)] r22.2).bind (fun r26 =>
 (un1 r26.1 (fun v27 =>
 ((ibin BinOp.lss v27 a2).bind (fun v28 =>
 ((callV call (Value.func (Fn.func 113) (Array.mk []) (Array.mk [(ptr (h.next + 2) 0)])) [(SV.one (I 4)), (SV.one v28)] r26.2).bind (fun r29 =>
 (unT r29.1 (fun l30 =>
 (unNil l30 ((pld r29.2 (ptr (h.next + 2) 0)).bind (fun v31 =>
 ((pst r29.2 v31 (ptr (h.next + 2) 0)).bind (fun h32 =>
 ((pld h32 (ptr (h.next + 2) 0)).bind (fun v33 =>
 (some ((SV.one v33), h32))))))))))))))))))))))))))))))))))))))))))))))))))))))))))))))))))))
theorem F63_eq (call : CallT) (N : Nat) (as0 : List Value) (a1 : Value) (a2 : Value) (h : H) : execF Proofs.Tryz.prog call hints N 63 [(SV.agg as0), (SV.one a1), (SV.one a2)] h = F63 call N as0 a1 a2 h := by kernel_rfl
-- f64
noncomputable def F64 (call : CallT) (N : Nat) (as0 : List Value) (a1 : Value) (h : H) : Option (SV × H) :=
 ((pldn (H.new h (Blk.cells as0 33 true)) 5 (ptr h.next 0)).bind (fun l2 =>
 ((call (Fn.func 53) [(SV.agg l2)] (H.new h (Blk.cells as0 33 true))).bind (fun r3 =>
 (un1 r3.1 (fun v4 =>
 ((ibin BinOp.neq v4 (I 0)).bind (fun v5 =>
 (condV v5 (some ((SV.one v4), r3.2)) ((pldn r3.2 5 (ptr h.next 0)).bind (fun l6 =>
 ((call (Fn.func 119) [(SV.agg l6), (SV.one a1)] r3.2).bind (fun r7 =>
 (un1 r7.1 (fun v8 =>
 ((un UnOp.not v8).bind (fun v9 =>
 (condV v9 (some ((SV.one (I 1)), r7.2)) (some ((SV.one (I 0)), r7.2))))))))))))))))))))
theorem F64_eq (call : CallT) (N : Nat) (as0 : List Value) (a1 : Value) (h : H) : execF Proofs.Tryz.prog call hints N 64 [(SV.agg as0), (SV.one a1)] h = F64 call N as0 a1 h := by kernel_rfl
-- f65
noncomputable def LP65_0 (call : CallT) (N : Nat) : Nat → List SV → H → Option X := loopIt (fun st h k => exec Proofs.Tryz.prog call N (some Proofs.Tryz.f65.results) (((Proofs.Tryz.f65).body.getD .skip).l2.l2.l2.l1.l2.l1).l1 (hl1 (hl1 (hl2 (hl1 (hl2 (hl2 (hl2 (hints 65)))))))) st h k) [(2, Sh.one), (6, Sh.one), (23, Sh.one), (24, Sh.one)] (Join.mk [] [(0, [])]) 38
noncomputable def B65_0 (call : CallT) (N : Nat) (go : List SV → H → Option X) (a22 : Value) (a23 : Value) (a24 : Value) (a25 : Value) (h : H) : Option X :=
 ((ibin BinOp.lss a25 a24).bind (fun v26 =>
 (condV v26 ((idxS 3 a23 a25).bind (fun v27 =>
 ((pldn (hideL [] h) 3 v27).bind (fun l28 =>
 ((bOf a22).bind (fun i29 =>
 ((call (Fn.func 121) [(SV.agg l28)] (frzL [i29] (hideL [] h))).bind (fun r30 =>
 (un1 r30.1 (fun v31 =>
 (sameB a22 a22 ((pldn (hideL [] (thawL [i29] h r30.2)) 5 a22).bind (fun l32 =>
 ((call (Fn.func 122) [(SV.agg l32), (SV.one a25)] (frzL [] (hideL [] (thawL [i29] h r30.2)))).bind (fun r33 =>
 (un1 r33.1 (fun v34 =>
 ((ibin BinOp.gtr v31 v34).bind (fun v35 =>
 (condV v35 (some ((Out.ret (SV.tup [(SV.one a25), (SV.one (Value.bool true))])), ([], (thawL [] (thawL [i29] h r30.2) r33.2)))) ((ibin BinOp.add a25 (I 1)).bind (fun v36 =>
 (go [(SV.one a22), (SV.one a23), (SV.one a24), (SV.one v36)] (thawL [] (thawL [i29] h r30.2) r33.2)))))))))))))))))))))))) (some ((Out.exit 0), ([], h))))))
theorem LP65_0_succ (call : CallT) (N m : Nat) (a22 : Value) (a23 : Value) (a24 : Value) (a25 : Value) (h : H) : LP65_0 call N (m + 1) [(SV.one a22), (SV.one a23), (SV.one a24), (SV.one a25)] h = B65_0 call N (LP65_0 call N m) a22 a23 a24 a25 h := by kernel_rfl
noncomputable def F65 (call : CallT) (N : Nat) (as0 : List Value) (a1 : Value) (h : H) : Option (SV × H) :=
 ((pldn (H.new h (Blk.cells as0 33 true)) 5 (ptr h.next 0)).bind (fun l2 =>
 ((call (Fn.func 120) [(SV.agg l2), (SV.one a1)] (H.new h (Blk.cells as0 33 true))).bind (fun r3 =>
 (un1 r3.1 (fun v4 =>
 ((padd 0 (ptr h.next 0)).bind (fun v5 =>
 ((pld (hideL [] r3.2) v5).bind (fun v6 =>
 ((lenS v6).bind (fun v7 =>
 ((idxS 3 v4 v7).bind (fun v8 =>
 ((pldn (hideL [] r3.2) 3 v8).bind (fun l9 =>
 ((bOf (ptr h.next 0)).bind (fun i10 =>
 ((call (Fn.func 121) [(SV.agg l9)] (frzL [i10] (hideL [] r3.2))).bind (fun r11 =>
 (un1 r11.1 (fun v12 =>
 ((padd 2 (ptr h.next 0)).bind (fun v13 =>
 (sameB (ptr h.next 0) v13 ((pld (hideL [] (thawL [i10] r3.2 r11.2)) v13).bind (fun v14 =>
 ((ibin BinOp.gtr v12 v14).bind (fun v15 =>
 (condV v15 (some ((SV.tup [(SV.one (I (-1))), (SV.one (Value.bool true))]), (thawL [i10] r3.2 r11.2))) ((padd 0 (ptr h.next 0)).bind (fun v16 =>
 ((pld (thawL [i10] r3.2 r11.2) v16).bind (fun v17 =>
 ((lenS v17).bind (fun v18 =>
 ((LP65_0 call N N [(SV.one (ptr h.next 0)), (SV.one v4), (SV.one v18), (SV.one (I 0))] (thawL [i10] r3.2 r11.2)).bind (fun r19 =>
 (outc r19.1 (unNil r19.2.1 (some ((SV.tup [(SV.one (I 0)), (SV.one (Value.bool false))]), r19.2.2))) (fun i20 =>
 (ifN i20 0 (unNil r19.2.1 (some ((SV.tup [(SV.one (I 0)), (SV.one (Value.bool false))]), r19.2.2))) none)) (fun x21 =>
 (some (x21, r19.2.2))))))))))))))))))))))))))))))))))))))))))
theorem F65_eq (call : CallT) (N : Nat) (as0 : List Value) (a1 : Value) (h : H) : execF Proofs.Tryz.prog call hints N 65 [(SV.agg as0), (SV.one a1)] h = F65 call N as0 a1 h := by kernel_rfl
-- f98
noncomputable def F98 (call : CallT) (N : Nat) (as0 : List Value) (h : H) : Option (SV × H) :=
 ((padd 0 (ptr h.next 0)).bind (fun v1 =>
 ((pld (H.new h (Blk.cells as0 24 true)) v1).bind (fun v2 =>
 ((lenS v2).bind (fun v3 =>
 ((ibin BinOp.gtr v3 (I 8)).bind (fun v4 =>
 ((gsel v4 false ((padd 1 (ptr h.next 0)).bind (fun v5 =>
 ((pld (H.new h (Blk.cells as0 24 true)) v5).bind (fun v6 =>
 ((call (Fn.func 101) [(SV.one v6), (SV.one (I 0)), (SV.one (I 100))] (H.new h (Blk.cells as0 24 true))).bind (fun r7 =>
 (un1 r7.1 (fun v8 =>
 ((un UnOp.not v8).bind (fun v9 =>
 (some (v9, r7.2)))))))))))) (some ((Value.bool true), (H.new h (Blk.cells as0 24 true))))).bind (fun r10 =>
 ((gsel r10.1 false ((padd 0 (ptr h.next 0)).bind (fun v11 =>
 ((pld r10.2 v11).bind (fun v12 =>
 ((call (Fn.func 179) [(SV.one v12), (SV.one (Value.func (Fn.func 178) (Array.mk []) (Array.mk [])))] r10.2).bind (fun r13 =>
 (un1 r13.1 (fun v14 =>
 (some (v14, r13.2)))))))))) (some ((Value.bool true), r10.2))).bind (fun r15 =>
 (condV r15.1 (some ((SV.one (I 70)), r15.2)) (some ((SV.one (I 0)), r15.2)))))))))))))))
theorem F98_eq (call : CallT) (N : Nat) (as0 : List Value) (h : H) : execF Proofs.Tryz.prog call hints N 98 [(SV.agg as0)] h = F98 call N as0 h := by kernel_rfl
-- f99
noncomputable def F99 (call : CallT) (N : Nat) (as0 : List Value) (a1 : Value) (h : H) : Option (SV × H) :=
 ((padd 0 (ptr h.next 0)).bind (fun v2 =>
 ((pld (H.new h (Blk.cells as0 61 true)) v2).bind (fun v3 =>
 ((call (Fn.func 101) [(SV.one v3), (SV.one (I 0)), (SV.one (I 2000))] (H.new h (Blk.cells as0 61 true))).bind (fun r4 =>
 (un1 r4.1 (fun v5 =>
 ((un UnOp.not v5).bind (fun v6 =>
 ((gsel v6 false ((padd 1 (ptr h.next 0)).bind (fun v7 =>
 ((pld r4.2 v7).bind (fun v8 =>
 ((call (Fn.func 101) [(SV.one v8), (SV.one (I 1)), (SV.one (I 40))] r4.2).bind (fun r9 =>
 (un1 r9.1 (fun v10 =>
 ((un UnOp.not v10).bind (fun v11 =>
 (some (v11, r9.2)))))))))))) (some ((Value.bool true), r4.2))).bind (fun r12 =>
 ((gsel r12.1 false ((padd 2 (ptr h.next 0)).bind (fun v13 =>
 ((pld r12.2 v13).bind (fun v14 =>
 ((call (Fn.func 101) [(SV.one v14), (SV.one (I 0)), (SV.one (I 10000))] r12.2).bind (fun r15 =>
 (un1 r15.1 (fun v16 =>
 ((un UnOp.not v16).bind (fun v17 =>
 (some (v17, r15.2)))))))))))) (some ((Value.bool true), r12.2))).bind (fun r18 =>
 ((gsel r18.1 false ((padd 4 (ptr h.next 0)).bind (fun v19 =>
 ((pld r18.2 v19).bind (fun v20 =>
 ((call (Fn.func 101) [(SV.one v20), (SV.one (I 0)), (SV.one (I 2000))] r18.2).bind (fun r21 =>
 (un1 r21.1 (fun v22 =>
 ((un UnOp.not v22).bind (fun v23 =>
 (some (v23, r21.2)))))))))))) (some ((Value.bool true), r18.2))).bind (fun r24 =>
 ((gsel r24.1 false ((padd 3 (ptr h.next 0)).bind (fun v25 =>
 ((pld r24.2 v25).bind (fun v26 =>
 ((lenS v26).bind (fun v27 =>
 ((ibin BinOp.gtr v27 (I 10)).bind (fun v28 =>
 (some (v28, r24.2)))))))))) (some ((Value.bool true), r24.2))).bind (fun r29 =>
 ((gsel r29.1 false ((padd 3 (ptr h.next 0)).bind (fun v30 =>
 ((pld r29.2 v30).bind (fun v31 =>
 ((call (Fn.func 57) [(SV.one v31), (SV.one (Value.func (Fn.func 100) (Array.mk []) (Array.mk [a1])))] r29.2).bind (fun r32 =>
 (un1 r32.1 (fun v33 =>
 (some (v33, r32.2)))))))))) (some ((Value.bool true), r29.2))).bind (fun r34 =>
 (some ((SV.one r34.1), r34.2))))))))))))))))))))))
theorem F99_eq (call : CallT) (N : Nat) (as0 : List Value) (a1 : Value) (h : H) : execF Proofs.Tryz.prog call hints N 99 [(SV.agg as0), (SV.one a1)] h = F99 call N as0 a1 h := by kernel_rfl
-- f100
noncomputable def F100 (call : CallT) (N : Nat) (a0 : Value) (a1 : Value) (h : H) : Option (SV × H) :=
 ((padd 0 a1).bind (fun v2 =>
 ((pld h v2).bind (fun v3 =>
 ((lenS v3).bind (fun v4 =>
 ((ibin BinOp.sub v4 (I 1)).bind (fun v5 =>
 ((call (Fn.func 101) [(SV.one a0), (SV.one (I 0)), (SV.one v5)] h).bind (fun r6 =>
 (un1 r6.1 (fun v7 =>
 ((un UnOp.not v7).bind (fun v8 =>
 (some ((SV.one v8), r6.2))))))))))))))))
theorem F100_eq (call : CallT) (N : Nat) (a0 : Value) (a1 : Value) (h : H) : execF Proofs.Tryz.prog call hints N 100 [(SV.one a0), (SV.one a1)] h = F100 call N a0 a1 h := by kernel_rfl
-- f101
noncomputable def F101 (call : CallT) (N : Nat) (a0 : Value) (a1 : Value) (a2 : Value) (h : H) : Option (SV × H) :=
 ((ibin BinOp.geq a0 a1).bind (fun v3 =>
 ((gsel v3 true ((ibin BinOp.leq a0 a2).bind (fun v4 =>
 (some (v4, h)))) (some ((Value.bool false), h))).bind (fun r5 =>
 (some ((SV.one r5.1), r5.2))))))
theorem F101_eq (call : CallT) (N : Nat) (a0 : Value) (a1 : Value) (a2 : Value) (h : H) : execF Proofs.Tryz.prog call hints N 101 [(SV.one a0), (SV.one a1), (SV.one a2)] h = F101 call N a0 a1 a2 h := by kernel_rfl
-- f102
noncomputable def F102 (call : CallT) (N : Nat) (a0 : Value) (a1 : Value) (h : H) : Option (SV × H) :=
 ((call (Fn.func 180) [(SV.one a0), (SV.one a1)] h).bind (fun r2 =>
 (un1 r2.1 (fun v3 =>
 ((ibin BinOp.geq v3 (I 0)).bind (fun v4 =>
 (some ((SV.one v4), r2.2))))))))
theorem F102_eq (call : CallT) (N : Nat) (a0 : Value) (a1 : Value) (h : H) : execF Proofs.Tryz.prog call hints N 102 [(SV.one a0), (SV.one a1)] h = F102 call N a0 a1 h := by kernel_rfl
-- f103
noncomputable def LP103_0 (call : CallT) (N : Nat) : Nat → List SV → H → Option X := loopIt (fun st h k => exec Proofs.Tryz.prog call N (some Proofs.Tryz.f103.results) (((Proofs.Tryz.f103).body.getD .skip).l2.l2.l2.l2.l1.l2.l1).l1 (hl1 (hl1 (hl2 (hl1 (hl2 (hl2 (hl2 (hl2 (hints 103))))))))) st h k) [(4, Sh.one), (22, Sh.one), (23, Sh.one), (24, Sh.one)] (Join.mk [] [(0, [(4, Sh.one)])]) 43
noncomputable def B103_0 (call : CallT) (N : Nat) (go : List SV → H → Option X) (a27 : Value) (a28 : Value) (a29 : Value) (a30 : Value) (h : H) : Option X :=
 ((ibin BinOp.lss a30 a29).bind (fun v31 =>
 (condV v31 ((idxS 5 a28 a30).bind (fun v32 =>
 ((pldn h 5 v32).bind (fun l33 =>
 (ifLen l33 5 ((pstn (H.new h (Blk.cells [(I 0), (I 0), (I 0), (I 0), (I 0)] 162 true)) l33 (ptr h.next 0)).bind (fun h34 =>
 ((pldn h34 4 a27).bind (fun l35 =>
 ((pldn h34 5 (ptr h.next 0)).bind (fun l36 =>
 ((call (Fn.func 182) [(SV.agg l35), (SV.agg l36)] h34).bind (fun r37 =>
 (un1 r37.1 (fun v38 =>
 ((un UnOp.not v38).bind (fun v39 =>
 (condV v39 ((pldn r37.2 4 a27).bind (fun l40 =>
 (ifLen l40 4 ((pstn r37.2 l40 a27).bind (fun h41 =>
 ((pldn h41 4 a27).bind (fun l42 =>
 (some ((Out.ret (SV.tup [(SV.agg l42), (SV.one a30), (SV.one (I 101))])), ([], h41)))))))))) ((padd 3 a27).bind (fun v43 =>
 ((pld r37.2 v43).bind (fun v44 =>
 ((pldn r37.2 5 (ptr h.next 0)).bind (fun l45 =>
 (fillK (fun l46 =>
 ((H.appS (H.new r37.2 (Blk.cells l46 162 true)) 5 162 (slc r37.2.next 0 1 1) v44).bind (fun r47 =>
 ((padd 3 a27).bind (fun v48 =>
 ((pst r47.2 r47.1 v48).bind (fun h49 =>
 ((ibin BinOp.add a30 (I 1)).bind (fun v50 =>
 (go [(SV.one a27), (SV.one a28), (SV.one a29), (SV.one v50)] h49)))))))))) [(I 0), (I 0), (I 0), (I 0), (I 0)] [(0, (5, (some (SV.agg l45))))]))))))))))))))))))))))))) (some ((Out.exit 0), ([(SV.one a27)], h))))))
theorem LP103_0_succ (call : CallT) (N m : Nat) (a27 : Value) (a28 : Value) (a29 : Value) (a30 : Value) (h : H) : LP103_0 call N (m + 1) [(SV.one a27), (SV.one a28), (SV.one a29), (SV.one a30)] h = B103_0 call N (LP103_0 call N m) a27 a28 a29 a30 h := by kernel_rfl
noncomputable def F103 (call : CallT) (N : Nat) (as0 : List Value) (a1 : Value) (h : H) : Option (SV × H) :=
 ((pldn (H.new (H.new h (Blk.cells as0 28 true)) (Blk.cells [(Value.slice none 0 0), (Value.slice none 0 0), (Value.slice none 0 0), (Value.slice none 0 0)] 112 true)) 3 (ptr h.next 0)).bind (fun l2 =>
 ((call (Fn.func 181) [(SV.agg l2)] (H.new (H.new h (Blk.cells as0 28 true)) (Blk.cells [(Value.slice none 0 0), (Value.slice none 0 0), (Value.slice none 0 0), (Value.slice none 0 0)] 112 true))).bind (fun r3 =>
 (un1 r3.1 (fun v4 =>
 ((ibin BinOp.neq v4 (I 0)).bind (fun v5 =>
 (condV v5 ((pldn r3.2 4 (ptr (h.next + 1) 0)).bind (fun l6 =>
 (ifLen l6 4 ((pstn r3.2 l6 (ptr (h.next + 1) 0)).bind (fun h7 =>
 ((pldn h7 4 (ptr (h.next + 1) 0)).bind (fun l8 =>
 (some ((SV.tup [(SV.agg l8), (SV.one (I 0)), (SV.one v4)]), h7))))))))) ((lenS a1).bind (fun v9 =>
 ((ibin BinOp.gtr v9 (I 100)).bind (fun v10 =>
 (condV v10 ((pldn r3.2 4 (ptr (h.next + 1) 0)).bind (fun l11 =>
 (ifLen l11 4 ((pstn r3.2 l11 (ptr (h.next + 1) 0)).bind (fun h12 =>
 ((pldn h12 4 (ptr (h.next + 1) 0)).bind (fun l13 =>
 (some ((SV.tup [(SV.agg l13), (SV.one (I 0)), (SV.one (I 2))]), h12))))))))) ((pldn r3.2 3 (ptr h.next 0)).bind (fun l14 =>
 (fillK (fun l15 =>
 (ifLen l15 4 ((pstn r3.2 l15 (ptr (h.next + 1) 0)).bind (fun h16 =>
 ((lenS a1).bind (fun v17 =>
 ((LP103_0 call N N [(SV.one (ptr (h.next + 1) 0)), (SV.one a1), (SV.one v17), (SV.one (I 0))] h16).bind (fun r18 =>
 (outc r18.1 (unNil r18.2.1 none) (fun i19 =>
 (ifN i19 0 (unConD r18.2.1 (fun x20 l21 =>
 (un1 x20 (fun v22 =>
 (unNil l21 ((pldn r18.2.2 4 v22).bind (fun l23 =>
 (ifLen l23 4 ((pstn r18.2.2 l23 v22).bind (fun h24 =>
 ((pldn h24 4 v22).bind (fun l25 =>
 (some ((SV.tup [(SV.agg l25), (SV.one (I 0)), (SV.one (I 0))]), h24)))))))))))))) none)) (fun x26 =>
 (some (x26, r18.2.2)))))))))))) [(Value.slice none 0 0), (Value.slice none 0 0), (Value.slice none 0 0), (Value.slice none 0 0)] [(0, (3, (some (SV.agg l14))))])))))))))))))))))
theorem F103_eq (call : CallT) (N : Nat) (as0 : List Value) (a1 : Value) (h : H) : execF Proofs.Tryz.prog call hints N 103 [(SV.agg as0), (SV.one a1)] h = F103 call N as0 a1 h := by kernel_rfl
-- f104
noncomputable def F104 (call : CallT) (N : Nat) (a0 : Value) (a1 : Value) (a2 : Value) (h : H) : Option (SV × H) :=
 ((ibin BinOp.geq a0 a1).bind (fun v3 =>
 ((gsel v3 true ((ibin BinOp.leq a0 a2).bind (fun v4 =>
 (some (v4, h)))) (some ((Value.bool false), h))).bind (fun r5 =>
 (some ((SV.one r5.1), r5.2))))))
theorem F104_eq (call : CallT) (N : Nat) (a0 : Value) (a1 : Value) (a2 : Value) (h : H) : execF Proofs.Tryz.prog call hints N 104 [(SV.one a0), (SV.one a1), (SV.one a2)] h = F104 call N a0 a1 a2 h := by kernel_rfl
-- f111
noncomputable def F111 (call : CallT) (N : Nat) (a0 : Value) (a1 : Value) (a2 : Value) (h : H) : Option (SV × H) :=
 ((ibin BinOp.geq a0 a1).bind (fun v3 =>
 ((gsel v3 true ((ibin BinOp.leq a0 a2).bind (fun v4 =>
 (some (v4, h)))) (some ((Value.bool false), h))).bind (fun r5 =>
 (some ((SV.one r5.1), r5.2))))))
theorem F111_eq (call : CallT) (N : Nat) (a0 : Value) (a1 : Value) (a2 : Value) (h : H) : execF Proofs.Tryz.prog call hints N 111 [(SV.one a0), (SV.one a1), (SV.one a2)] h = F111 call N a0 a1 a2 h := by kernel_rfl
-- f112
noncomputable def F112 (call : CallT) (N : Nat) (as0 : List Value) (a1 : Value) (h : H) : Option (SV × H) :=
 ((padd 3 (ptr h.next 0)).bind (fun v2 =>
 ((pld (H.new (H.new (H.new h (Blk.cells as0 112 true)) (Blk.cells [a1] 3 true)) (Blk.cells [(Value.slice none 0 0), (Value.slice none 0 0), (Value.slice none 0 0), (Value.slice none 0 0)] 112 true)) v2).bind (fun v3 =>
 ((call (Fn.func 186) [(SV.one v3), (SV.one (Value.func (Fn.func 187) (Array.mk []) (Array.mk [(ptr (h.next + 1) 0)])))] (H.new (H.new (H.new h (Blk.cells as0 112 true)) (Blk.cells [a1] 3 true)) (Blk.cells [(Value.slice none 0 0), (Value.slice none 0 0), (Value.slice none 0 0), (Value.slice none 0 0)] 112 true))).bind (fun r4 =>
 (un1 r4.1 (fun v5 =>
 ((ibin BinOp.geq v5 (I 0)).bind (fun v6 =>
 ((condV v6 ((padd 3 (ptr h.next 0)).bind (fun v7 =>
 ((pld r4.2 v7).bind (fun v8 =>
 ((cutS 5 none (some v5) v8).bind (fun v9 =>
 ((padd 3 (ptr h.next 0)).bind (fun v10 =>
 ((pst r4.2 v9 v10).bind (fun h11 =>
 (some (Out.normal, ([(SV.one (ptr h.next 0)), (SV.one (ptr (h.next + 2) 0))], h11))))))))))))) (some (Out.normal, ([(SV.one (ptr h.next 0)), (SV.one (ptr (h.next + 2) 0))], r4.2)))).bind (fun r12 =>
 (outc r12.1 (unConD r12.2.1 (fun x13 l14 =>
 (un1 x13 (fun v15 =>
 (unConD l14 (fun x16 l17 =>
 (un1 x16 (fun v18 =>
 (unNil l17 ((pldn r12.2.2 4 v15).bind (fun l19 =>
 (ifLen l19 4 ((pstn r12.2.2 l19 v18).bind (fun h20 =>
 ((pldn h20 4 v18).bind (fun l21 =>
 (some ((SV.agg l21), h20)))))))))))))))))) (fun i22 =>
 none) (fun x23 =>
 (some (x23, r12.2.2))))))))))))))))
theorem F112_eq (call : CallT) (N : Nat) (as0 : List Value) (a1 : Value) (h : H) : execF Proofs.Tryz.prog call hints N 112 [(SV.agg as0), (SV.one a1)] h = F112 call N as0 a1 h := by kernel_rfl
-- f113
noncomputable def F113 (call : CallT) (N : Nat) (a0 : Value) (a1 : Value) (a2 : Value) (h : H) : Option (SV × H) :=
 ((condV a1 ((pld h a2).bind (fun v3 =>
 ((H.appS (H.new h (Blk.cells [a0] 3 true)) 1 3 (slc h.next 0 1 1) v3).bind (fun r4 =>
 ((pst r4.2 r4.1 a2).bind (fun h5 =>
 (some (Out.normal, ([], h5))))))))) (some (Out.normal, ([], h)))).bind (fun r6 =>
 (outc r6.1 (unNil r6.2.1 (some ((SV.tup []), r6.2.2))) (fun i7 =>
 none) (fun x8 =>
 (some (x8, r6.2.2))))))
theorem F113_eq (call : CallT) (N : Nat) (a0 : Value) (a1 : Value) (a2 : Value) (h : H) : execF Proofs.Tryz.prog call hints N 113 [(SV.one a0), (SV.one a1), (SV.one a2)] h = F113 call N a0 a1 a2 h := by kernel_rfl
-- f114
noncomputable def LP114_0 (call : CallT) (N : Nat) : Nat → List SV → H → Option X := loopIt (fun st h k => exec Proofs.Tryz.prog call N (some Proofs.Tryz.f114.results) (((Proofs.Tryz.f114).body.getD .skip).l2.l2.l1.l2.l1).l1 (hl1 (hl1 (hl2 (hl1 (hl2 (hl2 (hints 114))))))) st h k) [(1, Sh.one), (2, Sh.one), (5, Sh.one), (10, Sh.one), (11, Sh.one), (12, Sh.one)] (Join.mk [] [(0, [(5, Sh.one)])]) 28
noncomputable def B114_0 (call : CallT) (N : Nat) (go : List SV → H → Option X) (a12 : Value) (a13 : Value) (a14 : Value) (a15 : Value) (a16 : Value) (a17 : Value) (h : H) : Option X :=
 ((ibin BinOp.lss a17 a16).bind (fun v18 =>
 (condV v18 (((idxS 4 a15 a17).bind (fun v19 =>
 ((pldn h 4 v19).bind (fun l20 =>
 (ifLen l20 4 ((pstn (H.new h (Blk.cells [(I 0), (I 0), (I 0), (Value.bool false)] 249 true)) l20 (ptr h.next 0)).bind (fun h21 =>
 ((padd 0 (ptr h.next 0)).bind (fun v22 =>
 ((pld h21 v22).bind (fun v23 =>
 ((ibin BinOp.eql v23 a12).bind (fun v24 =>
 ((condV v24 ((pldn h21 4 a13).bind (fun l25 =>
 ((call (Fn.func 188) [(SV.agg l25), (SV.one a17)] h21).bind (fun r26 =>
 (un1 r26.1 (fun v27 =>
 (((mn2 a14 v27).bind (fun v28 =>
 (some v28))).bind (fun v29 =>
 (some (Out.normal, ([(SV.one a12), (SV.one a13), (SV.one v29), (SV.one a15), (SV.one a16), (SV.one a17)], r26.2))))))))))) (some (Out.normal, ([(SV.one a12), (SV.one a13), (SV.one a14), (SV.one a15), (SV.one a16), (SV.one a17)], h21)))).bind (fun r30 =>
 (outc r30.1 (unConD r30.2.1 (fun x31 l32 =>
 (un1 x31 (fun v33 =>
 (unConD l32 (fun x34 l35 =>
 (un1 x34 (fun v36 =>
 (unConD l35 (fun x37 l38 =>
 (un1 x37 (fun v39 =>
 (unConD l38 (fun x40 l41 =>
 (un1 x40 (fun v42 =>
 (unConD l41 (fun x43 l44 =>
 (un1 x43 (fun v45 =>
 (unConD l44 (fun x46 l47 =>
 (un1 x46 (fun v48 =>
 (unNil l47 (some (Out.normal, ([(SV.one v33), (SV.one v36), (SV.one v39), (SV.one v42), (SV.one v45), (SV.one v48)], r30.2.2)))))))))))))))))))))))))))) (fun i49 =>
 none) (fun x50 =>
 (some ((Out.ret x50), ([], r30.2.2)))))))))))))))))))).bind (fun r51 =>
 (outc r51.1 (unConD r51.2.1 (fun x52 l53 =>
 (un1 x52 (fun v54 =>
 (unConD l53 (fun x55 l56 =>
 (un1 x55 (fun v57 =>
 (unConD l56 (fun x58 l59 =>
 (un1 x58 (fun v60 =>
 (unConD l59 (fun x61 l62 =>
 (un1 x61 (fun v63 =>
 (unConD l62 (fun x64 l65 =>
 (un1 x64 (fun v66 =>
 (unConD l65 (fun x67 l68 =>
 (un1 x67 (fun v69 =>
 (unNil l68 ((ibin BinOp.add v69 (I 1)).bind (fun v70 =>
 (go [(SV.one v54), (SV.one v57), (SV.one v60), (SV.one v63), (SV.one v66), (SV.one v70)] r51.2.2)))))))))))))))))))))))))))) (fun i71 =>
 none) (fun x72 =>
 (some ((Out.ret x72), ([], r51.2.2))))))) (some ((Out.exit 0), ([(SV.one a14)], h))))))
theorem LP114_0_succ (call : CallT) (N m : Nat) (a12 : Value) (a13 : Value) (a14 : Value) (a15 : Value) (a16 : Value) (a17 : Value) (h : H) : LP114_0 call N (m + 1) [(SV.one a12), (SV.one a13), (SV.one a14), (SV.one a15), (SV.one a16), (SV.one a17)] h = B114_0 call N (LP114_0 call N m) a12 a13 a14 a15 a16 a17 h := by kernel_rfl
noncomputable def F114 (call : CallT) (N : Nat) (as0 : List Value) (a1 : Value) (h : H) : Option (SV × H) :=
 ((padd 0 (ptr h.next 0)).bind (fun v2 =>
 ((padd 0 v2).bind (fun v3 =>
 ((pld (H.new h (Blk.cells as0 112 true)) v3).bind (fun v4 =>
 ((lenS v4).bind (fun v5 =>
 ((LP114_0 call N N [(SV.one a1), (SV.one (ptr h.next 0)), (SV.one (I 10000)), (SV.one v4), (SV.one v5), (SV.one (I 0))] (H.new h (Blk.cells as0 112 true))).bind (fun r6 =>
 (outc r6.1 (unNil r6.2.1 none) (fun i7 =>
 (ifN i7 0 (unConD r6.2.1 (fun x8 l9 =>
 (un1 x8 (fun v10 =>
 (unNil l9 (some ((SV.one v10), r6.2.2))))))) none)) (fun x11 =>
 (some (x11, r6.2.2))))))))))))))
theorem F114_eq (call : CallT) (N : Nat) (as0 : List Value) (a1 : Value) (h : H) : execF Proofs.Tryz.prog call hints N 114 [(SV.agg as0), (SV.one a1)] h = F114 call N as0 a1 h := by kernel_rfl
-- f115
noncomputable def LP115_0 (call : CallT) (N : Nat) : Nat → List SV → H → Option X := loopIt (fun st h k => exec Proofs.Tryz.prog call N (some Proofs.Tryz.f115.results) (((Proofs.Tryz.f115).body.getD .skip).l2.l2.l1.l2.l1).l1 (hl1 (hl1 (hl2 (hl1 (hl2 (hl2 (hints 115))))))) st h k) [(1, Sh.one), (2, Sh.one), (5, Sh.one), (10, Sh.one), (11, Sh.one), (12, Sh.one)] (Join.mk [] [(0, [(5, Sh.one)])]) 40
noncomputable def B115_0 (call : CallT) (N : Nat) (go : List SV → H → Option X) (a19 : Value) (a20 : Value) (a21 : Value) (a22 : Value) (a23 : Value) (a24 : Value) (h : H) : Option X :=
 ((ibin BinOp.lss a24 a23).bind (fun v25 =>
 (condV v25 (((idxS 1 a22 a24).bind (fun v26 =>
 ((pld h v26).bind (fun v27 =>
 ((padd 3 a20).bind (fun v28 =>
 ((pld h v28).bind (fun v29 =>
 ((idxS 5 v29 v27).bind (fun v30 =>
 ((pldn h 5 v30).bind (fun l31 =>
 (ifLen l31 5 ((pstn (H.new h (Blk.cells [(I 0), (I 0), (I 0), (I 0), (I 0)] 162 true)) l31 (ptr h.next 0)).bind (fun h32 =>
 ((padd 2 (ptr h.next 0)).bind (fun v33 =>
 ((pld h32 v33).bind (fun v34 =>
 ((ibin BinOp.eql v34 a19).bind (fun v35 =>
 ((condV v35 ((padd 3 (ptr h.next 0)).bind (fun v36 =>
 ((pld h32 v36).bind (fun v37 =>
 ((idxP 1 4 a21 v37).bind (fun v38 =>
 ((pld h32 v38).bind (fun v39 =>
 ((ibin BinOp.add v39 (I 1)).bind (fun v40 =>
 ((idxP 1 4 a21 v37).bind (fun v41 =>
 ((pst h32 v40 v41).bind (fun h42 =>
 (some (Out.normal, ([(SV.one a19), (SV.one a20), (SV.one a21), (SV.one a22), (SV.one a23), (SV.one a24)], h42))))))))))))))))) (some (Out.normal, ([(SV.one a19), (SV.one a20), (SV.one a21), (SV.one a22), (SV.one a23), (SV.one a24)], h32)))).bind (fun r43 =>
 (outc r43.1 (unConD r43.2.1 (fun x44 l45 =>
 (un1 x44 (fun v46 =>
 (unConD l45 (fun x47 l48 =>
 (un1 x47 (fun v49 =>
 (unConD l48 (fun x50 l51 =>
 (un1 x50 (fun v52 =>
 (unConD l51 (fun x53 l54 =>
 (un1 x53 (fun v55 =>
 (unConD l54 (fun x56 l57 =>
 (un1 x56 (fun v58 =>
 (unConD l57 (fun x59 l60 =>
 (un1 x59 (fun v61 =>
 (unNil l60 (some (Out.normal, ([(SV.one v46), (SV.one v49), (SV.one v52), (SV.one v55), (SV.one v58), (SV.one v61)], r43.2.2)))))))))))))))))))))))))))) (fun i62 =>
 none) (fun x63 =>
 (some ((Out.ret x63), ([], r43.2.2)))))))))))))))))))))))))))).bind (fun r64 =>
 (outc r64.1 (unConD r64.2.1 (fun x65 l66 =>
 (un1 x65 (fun v67 =>
 (unConD l66 (fun x68 l69 =>
 (un1 x68 (fun v70 =>
 (unConD l69 (fun x71 l72 =>
 (un1 x71 (fun v73 =>
 (unConD l72 (fun x74 l75 =>
 (un1 x74 (fun v76 =>
 (unConD l75 (fun x77 l78 =>
 (un1 x77 (fun v79 =>
 (unConD l78 (fun x80 l81 =>
 (un1 x80 (fun v82 =>
 (unNil l81 ((ibin BinOp.add v82 (I 1)).bind (fun v83 =>
 (go [(SV.one v67), (SV.one v70), (SV.one v73), (SV.one v76), (SV.one v79), (SV.one v83)] r64.2.2)))))))))))))))))))))))))))) (fun i84 =>
 none) (fun x85 =>
 (some ((Out.ret x85), ([], r64.2.2))))))) (some ((Out.exit 0), ([(SV.one a21)], h))))))
theorem LP115_0_succ (call : CallT) (N m : Nat) (a19 : Value) (a20 : Value) (a21 : Value) (a22 : Value) (a23 : Value) (a24 : Value) (h : H) : LP115_0 call N (m + 1) [(SV.one a19), (SV.one a20), (SV.one a21), (SV.one a22), (SV.one a23), (SV.one a24)] h = B115_0 call N (LP115_0 call N m) a19 a20 a21 a22 a23 a24 h := by kernel_rfl
noncomputable def F115 (call : CallT) (N : Nat) (as0 : List Value) (a1 : Value) (h : H) : Option (SV × H) :=
 ((pldn (H.new (H.new h (Blk.cells as0 112 true)) (Blk.cells [(I 0), (I 0), (I 0), (I 0)] 253 true)) 4 (ptr h.next 0)).bind (fun l2 =>
 ((call (Fn.func 189) [(SV.agg l2)] (H.new (H.new h (Blk.cells as0 112 true)) (Blk.cells [(I 0), (I 0), (I 0), (I 0)] 253 true))).bind (fun r3 =>
 (un1 r3.1 (fun v4 =>
 ((lenS v4).bind (fun v5 =>
 ((LP115_0 call N N [(SV.one a1), (SV.one (ptr h.next 0)), (SV.one (ptr (h.next + 1) 0)), (SV.one v4), (SV.one v5), (SV.one (I 0))] r3.2).bind (fun r6 =>
 (outc r6.1 (unNil r6.2.1 none) (fun i7 =>
 (ifN i7 0 (unConD r6.2.1 (fun x8 l9 =>
 (un1 x8 (fun v10 =>
 (unNil l9 ((idxP 1 4 v10 (I 3)).bind (fun v11 =>
 ((pld r6.2.2 v11).bind (fun v12 =>
 ((ibin BinOp.eql v12 (I 0)).bind (fun v13 =>
 ((gsel v13 true ((idxP 1 4 v10 (I 2)).bind (fun v14 =>
 ((pld r6.2.2 v14).bind (fun v15 =>
 ((ibin BinOp.leq v15 (I 1)).bind (fun v16 =>
 (some (v16, r6.2.2)))))))) (some ((Value.bool false), r6.2.2))).bind (fun r17 =>
 (some ((SV.one r17.1), r17.2))))))))))))))) none)) (fun x18 =>
 (some (x18, r6.2.2))))))))))))))
theorem F115_eq (call : CallT) (N : Nat) (as0 : List Value) (a1 : Value) (h : H) : execF Proofs.Tryz.prog call hints N 115 [(SV.agg as0), (SV.one a1)] h = F115 call N as0 a1 h := by kernel_rfl
-- f116
noncomputable def LB116_0 (p0 : List Value) (p1 : Value) (p2 : Value) (p3 : Value) (p4 : Value) (p5 : Value) (p6 : Value) (p7 : List Value) (p8 : Value) : Blk := .loop .ready none 0 ⟨(.n (some (.agg p0)) (.n (some (.one p1)) (.n (some (.one p2)) .e .e) (.n (some (.one p3)) (.n (some (.one p4)) .e .e) .e)) (.n (some (.one p5)) (.n (some (.one p6)) (.n (some (.agg p7)) .e .e) .e) (.n (some (.one p8)) .e .e))), 27, some .undef⟩ #[10] (((Proofs.Tryz.f116).body.getD .skip).l2.l1.l2.l1).l1 (((Proofs.Tryz.f116).body.getD .skip).l2.l1.l2.l1).l2 (hl1 (hl1 (hl2 (hl1 (hl2 (hints 116)))))) (hl2 (hl1 (hl2 (hl1 (hl2 (hints 116))))))
noncomputable def F116 (call : CallT) (N : Nat) (as0 : List Value) (a1 : Value) (a2 : Value) (h : H) : Option (SV × H) :=
 ((pldn (H.new (H.new (H.new (H.new h (Blk.cells as0 112 true)) (Blk.cells [a1] 3 true)) (Blk.cells [a2] 179 true)) (Blk.cells [(I 0)] 3 true)) 4 (ptr h.next 0)).bind (fun l3 =>
 ((call (Fn.func 190) [(SV.agg l3)] (H.new (H.new (H.new (H.new h (Blk.cells as0 112 true)) (Blk.cells [a1] 3 true)) (Blk.cells [a2] 179 true)) (Blk.cells [(I 0)] 3 true))).bind (fun r4 =>
 (un1 r4.1 (fun v5 =>
 ((callG call v5 [(SV.one (Value.func (Fn.yield r4.2.next) (Array.mk []) (Array.mk [])))] (H.new r4.2 (LB116_0 as0 a1 (ptr h.next 0) (ptr (h.next + 2) 0) v5 a2 (ptr (h.next + 1) 0) l3 (ptr (h.next + 3) 0)))).bind (fun r6 =>
 (endL r4.2.next r6.2 (fun h7 =>
 ((pst h7 (I (-1)) (ptr (h.next + 3) 0)).bind (fun h8 =>
 ((pld h8 (ptr (h.next + 3) 0)).bind (fun v9 =>
 (some ((SV.one v9), h8))))))) (fun i10 h11 =>
 (ifN i10 0 ((pst h11 (I (-1)) (ptr (h.next + 3) 0)).bind (fun h12 =>
 ((pld h12 (ptr (h.next + 3) 0)).bind (fun v13 =>
 (some ((SV.one v13), h12)))))) none)) (fun h14 =>
 ((pld h14 (ptr (h.next + 3) 0)).bind (fun v15 =>
 (some ((SV.one v15), h14))))))))))))))
theorem F116_eq (call : CallT) (N : Nat) (as0 : List Value) (a1 : Value) (a2 : Value) (h : H) : execF Proofs.Tryz.prog call hints N 116 [(SV.agg as0), (SV.one a1), (SV.one a2)] h = F116 call N as0 a1 a2 h := by kernel_rfl
noncomputable def Y116_0 (call : CallT) (N l : Nat) (p0 : List Value) (p1 : Value) (p2 : Value) (p3 : Value) (p4 : Value) (p5 : Value) (p6 : Value) (p7 : List Value) (p8 : Value) (y0 : List Value) (h : H) : Option (SV × H) :=
 (ifLen y0 5 ((pstn (H.new h (Blk.cells [(I 0), (I 0), (I 0), (I 0), (I 0)] 162 true)) y0 (ptr h.next 0)).bind (fun h16 =>
 (begR l h16 (fun h17 =>
 ((pld h17 p3).bind (fun v18 =>
 ((pldn h17 5 (ptr h.next 0)).bind (fun l19 =>
 ((callV call v18 [(SV.agg l19)] h17).bind (fun r20 =>
 (un1 r20.1 (fun v21 =>
 (condV v21 ((padd 0 (ptr h.next 0)).bind (fun v22 =>
 ((pld r20.2 v22).bind (fun v23 =>
 ((pst r20.2 v23 p8).bind (fun h24 =>
 (endR l (some Code.ret) h24))))))) ((padd 1 (ptr h.next 0)).bind (fun v25 =>
 ((pld r20.2 v25).bind (fun v26 =>
 ((ibin BinOp.eql v26 (I 6)).bind (fun v27 =>
 ((gsel v27 true ((padd 2 (ptr h.next 0)).bind (fun v28 =>
 ((pld r20.2 v28).bind (fun v29 =>
 ((pld r20.2 p6).bind (fun v30 =>
 ((ibin BinOp.eql v29 v30).bind (fun v31 =>
 (some (v31, r20.2)))))))))) (some ((Value.bool false), r20.2))).bind (fun r32 =>
 (condV r32.1 ((pst r32.2 (I (-1)) p8).bind (fun h33 =>
 (endR l (some Code.ret) h33))) (endR l none r32.2))))))))))))))))))))))))
theorem Y116_0_eq (call : CallT) (N l : Nat) (p0 : List Value) (p1 : Value) (p2 : Value) (p3 : Value) (p4 : Value) (p5 : Value) (p6 : Value) (p7 : List Value) (p8 : Value) (y0 : List Value) (h : H) : yieldK Proofs.Tryz.prog call N (LB116_0 p0 p1 p2 p3 p4 p5 p6 p7 p8) l [(SV.agg y0)] h = Y116_0 call N l p0 p1 p2 p3 p4 p5 p6 p7 p8 y0 h := by kernel_rfl
-- f117
noncomputable def F117 (call : CallT) (N : Nat) (as0 : List Value) (a1 : Value) (h : H) : Option (SV × H) :=
 ((padd 1 (ptr h.next 0)).bind (fun v2 =>
 ((pld (H.new h (Blk.cells as0 162 true)) v2).bind (fun v3 =>
 ((ibin BinOp.eql v3 (I 4)).bind (fun v4 =>
 ((gsel v4 true ((padd 2 (ptr h.next 0)).bind (fun v5 =>
 ((pld (H.new h (Blk.cells as0 162 true)) v5).bind (fun v6 =>
 ((pld (H.new h (Blk.cells as0 162 true)) a1).bind (fun v7 =>
 ((ibin BinOp.eql v6 v7).bind (fun v8 =>
 (some (v8, (H.new h (Blk.cells as0 162 true)))))))))))) (some ((Value.bool false), (H.new h (Blk.cells as0 162 true))))).bind (fun r9 =>
 (some ((SV.one r9.1), r9.2))))))))))
theorem F117_eq (call : CallT) (N : Nat) (as0 : List Value) (a1 : Value) (h : H) : execF Proofs.Tryz.prog call hints N 117 [(SV.agg as0), (SV.one a1)] h = F117 call N as0 a1 h := by kernel_rfl
-- f118
noncomputable def LB118_0 (p0 : List Value) (p1 : Value) (p2 : Value) (p3 : Value) (p4 : Value) (p5 : Value) (p6 : List Value) : Blk := .loop .ready none 0 ⟨(.n (some (.agg p0)) (.n (some (.one p1)) (.n (some (.one p2)) (.n (some (.one p3)) .e .e) .e) .e) (.n (some (.one p4)) (.n (some (.one p5)) .e .e) (.n (some (.agg p6)) .e .e))), 26, some .undef⟩ #[8] (((Proofs.Tryz.f118).body.getD .skip).l2.l1.l2.l1).l1 (((Proofs.Tryz.f118).body.getD .skip).l2.l1.l2.l1).l2 (hl1 (hl1 (hl2 (hl1 (hl2 (hints 118)))))) (hl2 (hl1 (hl2 (hl1 (hl2 (hints 118))))))
noncomputable def F118 (call : CallT) (N : Nat) (as0 : List Value) (a1 : Value) (h : H) : Option (SV × H) :=
 ((pldn (H.new (H.new (H.new h (Blk.cells as0 112 true)) (Blk.cells [a1] 3 true)) (Blk.cells [(I 0)] 3 true)) 4 (ptr h.next 0)).bind (fun l2 =>
 ((call (Fn.func 190) [(SV.agg l2)] (H.new (H.new (H.new h (Blk.cells as0 112 true)) (Blk.cells [a1] 3 true)) (Blk.cells [(I 0)] 3 true))).bind (fun r3 =>
 (un1 r3.1 (fun v4 =>
 ((callG call v4 [(SV.one (Value.func (Fn.yield r3.2.next) (Array.mk []) (Array.mk [])))] (H.new r3.2 (LB118_0 as0 a1 (ptr (h.next + 1) 0) v4 (ptr h.next 0) (ptr (h.next + 2) 0) l2))).bind (fun r5 =>
 (endL r3.2.next r5.2 (fun h6 =>
 ((padd 0 (ptr h.next 0)).bind (fun v7 =>
 ((padd 2 v7).bind (fun v8 =>
 ((pld h6 v8).bind (fun v9 =>
 ((pld h6 (ptr (h.next + 1) 0)).bind (fun v10 =>
 ((idxS 1 v9 v10).bind (fun v11 =>
 ((pld h6 v11).bind (fun v12 =>
 ((pst h6 v12 (ptr (h.next + 2) 0)).bind (fun h13 =>
 ((pld h13 (ptr (h.next + 2) 0)).bind (fun v14 =>
 (some ((SV.one v14), h13))))))))))))))))))) (fun i15 h16 =>
 (ifN i15 0 ((padd 0 (ptr h.next 0)).bind (fun v17 =>
 ((padd 2 v17).bind (fun v18 =>
 ((pld h16 v18).bind (fun v19 =>
 ((pld h16 (ptr (h.next + 1) 0)).bind (fun v20 =>
 ((idxS 1 v19 v20).bind (fun v21 =>
 ((pld h16 v21).bind (fun v22 =>
 ((pst h16 v22 (ptr (h.next + 2) 0)).bind (fun h23 =>
 ((pld h23 (ptr (h.next + 2) 0)).bind (fun v24 =>
 (some ((SV.one v24), h23)))))))))))))))))) none)) (fun h25 =>
 ((pld h25 (ptr (h.next + 2) 0)).bind (fun v26 =>
 (some ((SV.one v26), h25))))))))))))))
theorem F118_eq (call : CallT) (N : Nat) (as0 : List Value) (a1 : Value) (h : H) : execF Proofs.Tryz.prog call hints N 118 [(SV.agg as0), (SV.one a1)] h = F118 call N as0 a1 h := by kernel_rfl
noncomputable def Y118_0 (call : CallT) (N l : Nat) (p0 : List Value) (p1 : Value) (p2 : Value) (p3 : Value) (p4 : Value) (p5 : Value) (p6 : List Value) (y0 : List Value) (h : H) : Option (SV × H) :=
 (ifLen y0 5 ((pstn (H.new h (Blk.cells [(I 0), (I 0), (I 0), (I 0), (I 0)] 162 true)) y0 (ptr h.next 0)).bind (fun h27 =>
 (begR l h27 (fun h28 =>
 ((padd 1 (ptr h.next 0)).bind (fun v29 =>
 ((pld h28 v29).bind (fun v30 =>
 ((ibin BinOp.eql v30 (I 5)).bind (fun v31 =>
 ((gsel v31 true ((padd 2 (ptr h.next 0)).bind (fun v32 =>
 ((pld h28 v32).bind (fun v33 =>
 ((pld h28 p2).bind (fun v34 =>
 ((ibin BinOp.eql v33 v34).bind (fun v35 =>
 (some (v35, h28)))))))))) (some ((Value.bool false), h28))).bind (fun r36 =>
 (condV r36.1 ((padd 3 (ptr h.next 0)).bind (fun v37 =>
 ((pld r36.2 v37).bind (fun v38 =>
 ((pst r36.2 v38 p5).bind (fun h39 =>
 (endR l (some Code.ret) h39))))))) (endR l none r36.2)))))))))))))))
theorem Y118_0_eq (call : CallT) (N l : Nat) (p0 : List Value) (p1 : Value) (p2 : Value) (p3 : Value) (p4 : Value) (p5 : Value) (p6 : List Value) (y0 : List Value) (h : H) : yieldK Proofs.Tryz.prog call N (LB118_0 p0 p1 p2 p3 p4 p5 p6) l [(SV.agg y0)] h = Y118_0 call N l p0 p1 p2 p3 p4 p5 p6 y0 h := by kernel_rfl
-- f119
noncomputable def F119 (call : CallT) (N : Nat) (as0 : List Value) (a1 : Value) (h : H) : Option (SV × H) :=
 ((padd 1 (ptr h.next 0)).bind (fun v2 =>
 ((pld (H.new h (Blk.cells as0 33 true)) v2).bind (fun v3 =>
 ((lenS v3).bind (fun v4 =>
 ((ibin BinOp.shl (I 1) v4).bind (fun v5 =>
 ((ibin BinOp.sub v5 (I 1)).bind (fun v6 =>
 ((call (Fn.func 104) [(SV.one a1), (SV.one (I 0)), (SV.one v6)] (H.new h (Blk.cells as0 33 true))).bind (fun r7 =>
 (un1 r7.1 (fun v8 =>
 (some ((SV.one v8), r7.2))))))))))))))))
theorem F119_eq (call : CallT) (N : Nat) (as0 : List Value) (a1 : Value) (h : H) : execF Proofs.Tryz.prog call hints N 119 [(SV.agg as0), (SV.one a1)] h = F119 call N as0 a1 h := by kernel_rfl
-- f120
noncomputable def LB120_0 (p0 : Value) (p1 : Value) (p2 : Value) (p3 : Value) (p4 : Value) (p5 : List Value) (p6 : Value) (p7 : Value) (p8 : Value) (p9 : List Value) (p10 : Value) (p11 : Value) (p12 : Value) (p13 : Value) (p14 : Value) (p15 : Value) (p16 : Value) (p17 : Value) (p18 : Value) (p19 : Value) (p20 : Value) (p21 : Value) : Blk := .loop .ready none 0 ⟨(.n none (.n (some (.one p0)) (.n none (.n (some (.one p1)) (.n (some (.one p2)) .e .e) (.n (some (.one p3)) .e .e)) (.n none (.n (some (.one p4)) .e .e) (.n (some (.agg p5)) .e .e))) (.n (some (.one p6)) (.n none (.n (some (.one p7)) .e .e) (.n (some (.one p8)) .e .e)) (.n none (.n (some (.agg p9)) .e .e) (.n (some (.one p10)) .e .e)))) (.n (some (.one p11)) (.n (some (.one p12)) (.n none (.n (some (.one p13)) .e .e) (.n (some (.one p14)) .e .e)) (.n none (.n (some (.one p15)) .e .e) (.n (some (.one p16)) .e .e))) (.n (some (.one p17)) (.n none (.n (some (.one p18)) .e .e) (.n (some (.one p19)) .e .e)) (.n none (.n (some (.one p20)) .e .e) (.n (some (.one p21)) .e .e))))), 51, none⟩ #[31] (((Proofs.Tryz.f120).body.getD .skip).l2.l2.l1.l2.l1.l1.l2.l2.l1.l1.l2.l2.l2.l1).l1 (((Proofs.Tryz.f120).body.getD .skip).l2.l2.l1.l2.l1.l1.l2.l2.l1.l1.l2.l2.l2.l1).l2 (hl1 (hl1 (hl2 (hl2 (hl2 (hl1 (hl1 (hl2 (hl2 (hl1 (hl1 (hl2 (hl1 (hl2 (hl2 (hints 120)))))))))))))))) (hl2 (hl1 (hl2 (hl2 (hl2 (hl1 (hl1 (hl2 (hl2 (hl1 (hl1 (hl2 (hl1 (hl2 (hl2 (hints 120))))))))))))))))
noncomputable def LP120_0 (call : CallT) (N : Nat) : Nat → List SV → H → Option X := loopIt (fun st h k => exec Proofs.Tryz.prog call N (some Proofs.Tryz.f120.results) (((Proofs.Tryz.f120).body.getD .skip).l2.l2.l1.l2.l1).l1 (hl1 (hl1 (hl2 (hl1 (hl2 (hl2 (hints 120))))))) st h k) [(1, Sh.one), (2, Sh.one), (4, Sh.one), (5, Sh.one), (15, Sh.one), (16, Sh.one), (17, Sh.one)] (Join.mk [] [(0, [(5, Sh.one)])]) 51
noncomputable def B120_0 (call : CallT) (N : Nat) (go : List SV → H → Option X) (a18 : Value) (a19 : Value) (a20 : Value) (a21 : Value) (a22 : Value) (a23 : Value) (a24 : Value) (h : H) : Option X :=
 ((ibin BinOp.lss a24 a23).bind (fun v25 =>
 (condV v25 (((idxS 4 a22 a24).bind (fun v26 =>
 ((pldn h 4 v26).bind (fun l27 =>
 (ifLen l27 4 ((pstn (H.new h (Blk.cells [(I 0), (I 0), (I 0), (I 0)] 166 true)) l27 (ptr h.next 0)).bind (fun h28 =>
 ((ibin BinOp.shr a18 a24).bind (fun v29 =>
 ((ibin BinOp.and v29 (I 1)).bind (fun v30 =>
 ((ibin BinOp.eql v30 (I 0)).bind (fun v31 =>
 (condV v31 (some (Out.normal, ([(SV.one a18), (SV.one a19), (SV.one a20), (SV.one a21), (SV.one a22), (SV.one a23), (SV.one a24)], h28))) ((pldn h28 5 a19).bind (fun l32 =>
 ((padd 0 (ptr h.next 0)).bind (fun v33 =>
 ((pld h28 v33).bind (fun v34 =>
 ((call (Fn.func 191) [(SV.agg l32), (SV.one v34)] h28).bind (fun r35 =>
 (un1 r35.1 (fun v36 =>
 ((callG call v36 [(SV.one (Value.func (Fn.yield r35.2.next) (Array.mk []) (Array.mk [])))] (H.new r35.2 (LB120_0 a18 (ptr h.next 0) a22 a24 a24 l32 a21 a24 v30 l27 v34 a19 a20 a23 v29 v26 v33 a24 v25 v31 a18 v36))).bind (fun r37 =>
 (endL r35.2.next r37.2 (fun h38 =>
 (some (Out.normal, ([(SV.one a18), (SV.one a19), (SV.one a20), (SV.one a21), (SV.one a22), (SV.one a23), (SV.one a24)], h38)))) (fun i39 h40 =>
 (ifN i39 2 (some (Out.normal, ([(SV.one a18), (SV.one a19), (SV.one a20), (SV.one a21), (SV.one a22), (SV.one a23), (SV.one a24)], h40))) (ifN i39 1 (some (Out.normal, ([(SV.one a18), (SV.one a19), (SV.one a20), (SV.one a21), (SV.one a22), (SV.one a23), (SV.one a24)], h40))) (some ((Out.exit i39), ([], h40)))))) (fun h41 =>
 (some ((Out.ret (SV.one a20)), ([], h41))))))))))))))))))))))))))))))).bind (fun r42 =>
 (outc r42.1 (unConD r42.2.1 (fun x43 l44 =>
 (un1 x43 (fun v45 =>
 (unConD l44 (fun x46 l47 =>
 (un1 x46 (fun v48 =>
 (unConD l47 (fun x49 l50 =>
 (un1 x49 (fun v51 =>
 (unConD l50 (fun x52 l53 =>
 (un1 x52 (fun v54 =>
 (unConD l53 (fun x55 l56 =>
 (un1 x55 (fun v57 =>
 (unConD l56 (fun x58 l59 =>
 (un1 x58 (fun v60 =>
 (unConD l59 (fun x61 l62 =>
 (un1 x61 (fun v63 =>
 (unNil l62 ((ibin BinOp.add v63 (I 1)).bind (fun v64 =>
 (go [(SV.one v45), (SV.one v48), (SV.one v51), (SV.one v54), (SV.one v57), (SV.one v60), (SV.one v64)] r42.2.2)))))))))))))))))))))))))))))))) (fun i65 =>
 none) (fun x66 =>
 (some ((Out.ret x66), ([], r42.2.2))))))) (some ((Out.exit 0), ([(SV.one a21)], h))))))
theorem LP120_0_succ (call : CallT) (N m : Nat) (a18 : Value) (a19 : Value) (a20 : Value) (a21 : Value) (a22 : Value) (a23 : Value) (a24 : Value) (h : H) : LP120_0 call N (m + 1) [(SV.one a18), (SV.one a19), (SV.one a20), (SV.one a21), (SV.one a22), (SV.one a23), (SV.one a24)] h = B120_0 call N (LP120_0 call N m) a18 a19 a20 a21 a22 a23 a24 h := by kernel_rfl
noncomputable def F120 (call : CallT) (N : Nat) (as0 : List Value) (a1 : Value) (h : H) : Option (SV × H) :=
 ((padd 0 (ptr h.next 0)).bind (fun v2 =>
 ((pld (H.new h (Blk.cells as0 33 true)) v2).bind (fun v3 =>
 ((lenS v3).bind (fun v4 =>
 ((ibin BinOp.add v4 (I 1)).bind (fun v5 =>
 ((H.mkS (H.new h (Blk.cells as0 33 true)) [(I 0), (I 0), (I 0)] 184 v5 v5).bind (fun r6 =>
 ((pst (H.new r6.2 (Blk.cells [(Value.slice none 0 0)] 181 true)) r6.1 (ptr r6.2.next 0)).bind (fun h7 =>
 ((padd 1 (ptr h.next 0)).bind (fun v8 =>
 ((pld h7 v8).bind (fun v9 =>
 ((lenS v9).bind (fun v10 =>
 ((LP120_0 call N N [(SV.one a1), (SV.one (ptr h.next 0)), (SV.one (Value.slice none 0 0)), (SV.one (ptr r6.2.next 0)), (SV.one v9), (SV.one v10), (SV.one (I 0))] h7).bind (fun r11 =>
 (outc r11.1 (unNil r11.2.1 none) (fun i12 =>
 (ifN i12 0 (unConD r11.2.1 (fun x13 l14 =>
 (un1 x13 (fun v15 =>
 (unNil l14 ((pld r11.2.2 v15).bind (fun v16 =>
 (some ((SV.one v16), r11.2.2))))))))) none)) (fun x17 =>
 (some (x17, r11.2.2))))))))))))))))))))))))
theorem F120_eq (call : CallT) (N : Nat) (as0 : List Value) (a1 : Value) (h : H) : execF Proofs.Tryz.prog call hints N 120 [(SV.agg as0), (SV.one a1)] h = F120 call N as0 a1 h := by kernel_rfl
noncomputable def Y120_0 (call : CallT) (N l : Nat) (p0 : Value) (p1 : Value) (p2 : Value) (p3 : Value) (p4 : Value) (p5 : List Value) (p6 : Value) (p7 : Value) (p8 : Value) (p9 : List Value) (p10 : Value) (p11 : Value) (p12 : Value) (p13 : Value) (p14 : Value) (p15 : Value) (p16 : Value) (p17 : Value) (p18 : Value) (p19 : Value) (p20 : Value) (p21 : Value) (y0 : Value) (h : H) : Option (SV × H) :=
 (begR l h (fun h67 =>
 ((ibin BinOp.eql y0 (I (-1))).bind (fun v68 =>
 ((condV v68 ((padd 0 p11).bind (fun v69 =>
 ((pld h67 v69).bind (fun v70 =>
 ((lenS v70).bind (fun v71 =>
 (some (Out.normal, ([(SV.one p6), (SV.one p1), (SV.one v71)], h67))))))))) (some (Out.normal, ([(SV.one p6), (SV.one p1), (SV.one y0)], h67)))).bind (fun r72 =>
 (outc r72.1 (unConD r72.2.1 (fun x73 l74 =>
 (un1 x73 (fun v75 =>
 (unConD l74 (fun x76 l77 =>
 (un1 x76 (fun v78 =>
 (unConD l77 (fun x79 l80 =>
 (un1 x79 (fun v81 =>
 (unNil l80 ((pld (hideL [] r72.2.2) v75).bind (fun v82 =>
 ((padd 1 v78).bind (fun v83 =>
 ((pld (hideL [] r72.2.2) v83).bind (fun v84 =>
 ((idxS 3 v82 v81).bind (fun v85 =>
 ((idxP 1 3 v85 v84).bind (fun v86 =>
 ((pld (hideL [] r72.2.2) v86).bind (fun v87 =>
 ((padd 2 v78).bind (fun v88 =>
 ((pld (hideL [] r72.2.2) v88).bind (fun v89 =>
 ((ibin BinOp.add v87 v89).bind (fun v90 =>
 ((idxS 3 v82 v81).bind (fun v91 =>
 ((idxP 1 3 v91 v84).bind (fun v92 =>
 ((pst (frzL [] (hideL [] r72.2.2)) v90 v92).bind (fun h93 =>
 (endR l none (thawL [] r72.2.2 h93))))))))))))))))))))))))))))))))))))))) (fun i94 =>
 none) (fun x95 =>
 (endR l (some Code.ret) r72.2.2)))))))))
theorem Y120_0_eq (call : CallT) (N l : Nat) (p0 : Value) (p1 : Value) (p2 : Value) (p3 : Value) (p4 : Value) (p5 : List Value) (p6 : Value) (p7 : Value) (p8 : Value) (p9 : List Value) (p10 : Value) (p11 : Value) (p12 : Value) (p13 : Value) (p14 : Value) (p15 : Value) (p16 : Value) (p17 : Value) (p18 : Value) (p19 : Value) (p20 : Value) (p21 : Value) (y0 : Value) (h : H) : yieldK Proofs.Tryz.prog call N (LB120_0 p0 p1 p2 p3 p4 p5 p6 p7 p8 p9 p10 p11 p12 p13 p14 p15 p16 p17 p18 p19 p20 p21) l [(SV.one y0)] h = Y120_0 call N l p0 p1 p2 p3 p4 p5 p6 p7 p8 p9 p10 p11 p12 p13 p14 p15 p16 p17 p18 p19 p20 p21 y0 h := by kernel_rfl
-- f121
noncomputable def F121 (call : CallT) (N : Nat) (as0 : List Value) (h : H) : Option (SV × H) :=
 ((idxP 1 3 (ptr h.next 0) (I 0)).bind (fun v1 =>
 ((pld (H.new h (Blk.cells as0 184 true)) v1).bind (fun v2 =>
 ((idxP 1 3 (ptr h.next 0) (I 1)).bind (fun v3 =>
 ((pld (H.new h (Blk.cells as0 184 true)) v3).bind (fun v4 =>
 ((idxP 1 3 (ptr h.next 0) (I 2)).bind (fun v5 =>
 ((pld (H.new h (Blk.cells as0 184 true)) v5).bind (fun v6 =>
 (((mx2 v2 v4).bind (fun v7 =>
 ((mx2 v7 v6).bind (fun v8 =>
 (some v8))))).bind (fun v9 =>
 (some ((SV.one v9), (H.new h (Blk.cells as0 184 true))))))))))))))))))
theorem F121_eq (call : CallT) (N : Nat) (as0 : List Value) (h : H) : execF Proofs.Tryz.prog call hints N 121 [(SV.agg as0)] h = F121 call N as0 h := by kernel_rfl
-- f122
noncomputable def F122 (call : CallT) (N : Nat) (as0 : List Value) (a1 : Value) (h : H) : Option (SV × H) :=
 ((padd 0 (ptr h.next 0)).bind (fun v2 =>
 ((pld (H.new h (Blk.cells as0 33 true)) v2).bind (fun v3 =>
 ((lenS v3).bind (fun v4 =>
 ((ibin BinOp.eql a1 v4).bind (fun v5 =>
 ((gsel v5 false ((ibin BinOp.eql a1 (I (-1))).bind (fun v6 =>
 (some (v6, (H.new h (Blk.cells as0 33 true)))))) (some ((Value.bool true), (H.new h (Blk.cells as0 33 true))))).bind (fun r7 =>
 (condV r7.1 ((padd 2 (ptr h.next 0)).bind (fun v8 =>
 ((pld r7.2 v8).bind (fun v9 =>
 (some ((SV.one v9), r7.2)))))) ((padd 0 (ptr h.next 0)).bind (fun v10 =>
 ((pld r7.2 v10).bind (fun v11 =>
 ((idxS 4 v11 a1).bind (fun v12 =>
 ((padd 1 v12).bind (fun v13 =>
 ((pld r7.2 v13).bind (fun v14 =>
 (some ((SV.one v14), r7.2)))))))))))))))))))))))
theorem F122_eq (call : CallT) (N : Nat) (as0 : List Value) (a1 : Value) (h : H) : execF Proofs.Tryz.prog call hints N 122 [(SV.agg as0), (SV.one a1)] h = F122 call N as0 a1 h := by kernel_rfl
-- f130
noncomputable def F130 (call : CallT) (N : Nat) (as0 : List Value) (a1 : Value) (h : H) : Option (SV × H) :=
 ((padd 0 (ptr h.next 0)).bind (fun v2 =>
 ((padd 2 v2).bind (fun v3 =>
 ((pld (H.new h (Blk.cells as0 112 true)) v3).bind (fun v4 =>
 ((lenS v4).bind (fun v5 =>
 ((ibin BinOp.sub v5 (I 1)).bind (fun v6 =>
 ((call (Fn.func 111) [(SV.one a1), (SV.one (I 0)), (SV.one v6)] (H.new h (Blk.cells as0 112 true))).bind (fun r7 =>
 (un1 r7.1 (fun v8 =>
 (some ((SV.one v8), r7.2))))))))))))))))
theorem F130_eq (call : CallT) (N : Nat) (as0 : List Value) (a1 : Value) (h : H) : execF Proofs.Tryz.prog call hints N 130 [(SV.agg as0), (SV.one a1)] h = F130 call N as0 a1 h := by kernel_rfl
-- f178
noncomputable def F178 (call : CallT) (N : Nat) (as0 : List Value) (h : H) : Option (SV × H) :=
 ((padd 0 (ptr h.next 0)).bind (fun v1 =>
 ((pld (H.new h (Blk.cells as0 89 true)) v1).bind (fun v2 =>
 ((call (Fn.func 101) [(SV.one v2), (SV.one (I 1)), (SV.one (I 40))] (H.new h (Blk.cells as0 89 true))).bind (fun r3 =>
 (un1 r3.1 (fun v4 =>
 ((un UnOp.not v4).bind (fun v5 =>
 ((gsel v5 false ((padd 1 (ptr h.next 0)).bind (fun v6 =>
 ((pld r3.2 v6).bind (fun v7 =>
 ((call (Fn.func 101) [(SV.one v7), (SV.one (I 0)), (SV.one (I 100))] r3.2).bind (fun r8 =>
 (un1 r8.1 (fun v9 =>
 ((un UnOp.not v9).bind (fun v10 =>
 (some (v10, r8.2)))))))))))) (some ((Value.bool true), r3.2))).bind (fun r11 =>
 ((gsel r11.1 false ((padd 2 (ptr h.next 0)).bind (fun v12 =>
 ((pld r11.2 v12).bind (fun v13 =>
 ((call (Fn.func 101) [(SV.one v13), (SV.one (I 1)), (SV.one (I 100))] r11.2).bind (fun r14 =>
 (un1 r14.1 (fun v15 =>
 ((un UnOp.not v15).bind (fun v16 =>
 (some (v16, r14.2)))))))))))) (some ((Value.bool true), r11.2))).bind (fun r17 =>
 ((gsel r17.1 false ((padd 3 (ptr h.next 0)).bind (fun v18 =>
 ((pld r17.2 v18).bind (fun v19 =>
 ((call (Fn.func 101) [(SV.one v19), (SV.one (I 0)), (SV.one (I 100))] r17.2).bind (fun r20 =>
 (un1 r20.1 (fun v21 =>
 ((un UnOp.not v21).bind (fun v22 =>
 (some (v22, r20.2)))))))))))) (some ((Value.bool true), r17.2))).bind (fun r23 =>
 (some ((SV.one r23.1), r23.2))))))))))))))))))
theorem F178_eq (call : CallT) (N : Nat) (as0 : List Value) (h : H) : execF Proofs.Tryz.prog call hints N 178 [(SV.agg as0)] h = F178 call N as0 h := by kernel_rfl
-- f179
noncomputable def F179 (call : CallT) (N : Nat) (a0 : Value) (a1 : Value) (h : H) : Option (SV × H) :=
 ((call (Fn.func 231) [(SV.one a0), (SV.one a1)] h).bind (fun r2 =>
 (un1 r2.1 (fun v3 =>
 ((ibin BinOp.geq v3 (I 0)).bind (fun v4 =>
 (some ((SV.one v4), r2.2))))))))
theorem F179_eq (call : CallT) (N : Nat) (a0 : Value) (a1 : Value) (h : H) : execF Proofs.Tryz.prog call hints N 179 [(SV.one a0), (SV.one a1)] h = F179 call N a0 a1 h := by kernel_rfl
-- f180
noncomputable def LP180_0 (call : CallT) (N : Nat) : Nat → List SV → H → Option X := loopIt (fun st h k => exec Proofs.Tryz.prog call N (some Proofs.Tryz.f180.results) (((Proofs.Tryz.f180).body.getD .skip).l2.l1.l2.l1).l1 (hl1 (hl1 (hl2 (hl1 (hl2 (hints 180)))))) st h k) [(0, Sh.one), (1, Sh.one), (7, Sh.one), (8, Sh.one)] (Join.mk [] [(0, [])]) 19
noncomputable def B180_0 (call : CallT) (N : Nat) (go : List SV → H → Option X) (a6 : Value) (a7 : Value) (a8 : Value) (a9 : Value) (h : H) : Option X :=
 ((ibin BinOp.lss a9 a8).bind (fun v10 =>
 (condV v10 ((idxS 5 a6 a9).bind (fun v11 =>
 ((pldn h 5 v11).bind (fun l12 =>
 ((callV call a7 [(SV.agg l12)] h).bind (fun r13 =>
 (un1 r13.1 (fun v14 =>
 (condV v14 (some ((Out.ret (SV.one a9)), ([], r13.2))) ((ibin BinOp.add a9 (I 1)).bind (fun v15 =>
 (go [(SV.one a6), (SV.one a7), (SV.one a8), (SV.one v15)] r13.2)))))))))))) (some ((Out.exit 0), ([], h))))))
theorem LP180_0_succ (call : CallT) (N m : Nat) (a6 : Value) (a7 : Value) (a8 : Value) (a9 : Value) (h : H) : LP180_0 call N (m + 1) [(SV.one a6), (SV.one a7), (SV.one a8), (SV.one a9)] h = B180_0 call N (LP180_0 call N m) a6 a7 a8 a9 h := by kernel_rfl
noncomputable def F180 (call : CallT) (N : Nat) (a0 : Value) (a1 : Value) (h : H) : Option (SV × H) :=
 ((lenS a0).bind (fun v2 =>
 ((LP180_0 call N N [(SV.one a0), (SV.one a1), (SV.one v2), (SV.one (I 0))] h).bind (fun r3 =>
 (outc r3.1 (unNil r3.2.1 (some ((SV.one (I (-1))), r3.2.2))) (fun i4 =>
 (ifN i4 0 (unNil r3.2.1 (some ((SV.one (I (-1))), r3.2.2))) none)) (fun x5 =>
 (some (x5, r3.2.2))))))))
theorem F180_eq (call : CallT) (N : Nat) (a0 : Value) (a1 : Value) (h : H) : execF Proofs.Tryz.prog call hints N 180 [(SV.one a0), (SV.one a1)] h = F180 call N a0 a1 h := by kernel_rfl
-- f181
noncomputable def F181 (call : CallT) (N : Nat) (as0 : List Value) (h : H) : Option (SV × H) :=
 ((padd 0 (ptr h.next 0)).bind (fun v1 =>
 ((pld (H.new h (Blk.cells as0 28 true)) v1).bind (fun v2 =>
 ((lenS v2).bind (fun v3 =>
 ((ibin BinOp.gtr v3 (I 20)).bind (fun v4 =>
 ((gsel v4 false ((padd 1 (ptr h.next 0)).bind (fun v5 =>
 ((pld (H.new h (Blk.cells as0 28 true)) v5).bind (fun v6 =>
 ((lenS v6).bind (fun v7 =>
 ((ibin BinOp.gtr v7 (I 8)).bind (fun v8 =>
 (some (v8, (H.new h (Blk.cells as0 28 true)))))))))))) (some ((Value.bool true), (H.new h (Blk.cells as0 28 true))))).bind (fun r9 =>
 ((gsel r9.1 false ((padd 2 (ptr h.next 0)).bind (fun v10 =>
 ((pld r9.2 v10).bind (fun v11 =>
 ((lenS v11).bind (fun v12 =>
 ((ibin BinOp.gtr v12 (I 10)).bind (fun v13 =>
 (some (v13, r9.2)))))))))) (some ((Value.bool true), r9.2))).bind (fun r14 =>
 ((gsel r14.1 false ((padd 0 (ptr h.next 0)).bind (fun v15 =>
 ((pld r14.2 v15).bind (fun v16 =>
 ((call (Fn.func 232) [(SV.one v16), (SV.one (Value.func (Fn.func 233) (Array.mk []) (Array.mk [(ptr h.next 0)])))] r14.2).bind (fun r17 =>
 (un1 r17.1 (fun v18 =>
 (some (v18, r17.2)))))))))) (some ((Value.bool true), r14.2))).bind (fun r19 =>
 ((gsel r19.1 false ((padd 1 (ptr h.next 0)).bind (fun v20 =>
 ((pld r19.2 v20).bind (fun v21 =>
 ((call (Fn.func 57) [(SV.one v21), (SV.one (Value.func (Fn.func 234) (Array.mk []) (Array.mk [])))] r19.2).bind (fun r22 =>
 (un1 r22.1 (fun v23 =>
 (some (v23, r22.2)))))))))) (some ((Value.bool true), r19.2))).bind (fun r24 =>
 ((gsel r24.1 false ((padd 2 (ptr h.next 0)).bind (fun v25 =>
 ((pld r24.2 v25).bind (fun v26 =>
 ((call (Fn.func 57) [(SV.one v26), (SV.one (Value.func (Fn.func 235) (Array.mk []) (Array.mk [])))] r24.2).bind (fun r27 =>
 (un1 r27.1 (fun v28 =>
 (some (v28, r27.2)))))))))) (some ((Value.bool true), r24.2))).bind (fun r29 =>
 (condV r29.1 (some ((SV.one (I 100)), r29.2)) (some ((SV.one (I 0)), r29.2)))))))))))))))))))))
theorem F181_eq (call : CallT) (N : Nat) (as0 : List Value) (h : H) : execF Proofs.Tryz.prog call hints N 181 [(SV.agg as0)] h = F181 call N as0 h := by kernel_rfl
-- f182
noncomputable def F182 (call : CallT) (N : Nat) (as0 : List Value) (as1 : List Value) (h : H) : Option (SV × H) :=
 ((padd 3 (ptr h.next 0)).bind (fun v2 =>
 ((pld (H.new (H.new h (Blk.cells as0 112 true)) (Blk.cells as1 162 true)) v2).bind (fun v3 =>
 ((lenS v3).bind (fun v4 =>
 ((ibin BinOp.gtr v4 (I 0)).bind (fun v5 =>
 ((condV v5 ((padd 3 (ptr h.next 0)).bind (fun v6 =>
 ((pld (H.new (H.new h (Blk.cells as0 112 true)) (Blk.cells as1 162 true)) v6).bind (fun v7 =>
 ((ibin BinOp.sub v4 (I 1)).bind (fun v8 =>
 ((idxS 5 v7 v8).bind (fun v9 =>
 ((padd 0 v9).bind (fun v10 =>
 ((pld (H.new (H.new h (Blk.cells as0 112 true)) (Blk.cells as1 162 true)) v10).bind (fun v11 =>
 (some (Out.normal, ([(SV.one (ptr h.next 0)), (SV.one (ptr (h.next + 1) 0)), (SV.one v11)], (H.new (H.new h (Blk.cells as0 112 true)) (Blk.cells as1 162 true))))))))))))))))) (some (Out.normal, ([(SV.one (ptr h.next 0)), (SV.one (ptr (h.next + 1) 0)), (SV.one (I 0))], (H.new (H.new h (Blk.cells as0 112 true)) (Blk.cells as1 162 true)))))).bind (fun r12 =>
 (outc r12.1 (unConD r12.2.1 (fun x13 l14 =>
 (un1 x13 (fun v15 =>
 (unConD l14 (fun x16 l17 =>
 (un1 x16 (fun v18 =>
 (unConD l17 (fun x19 l20 =>
 (un1 x19 (fun v21 =>
 (unNil l20 ((padd 0 v18).bind (fun v22 =>
 ((pld r12.2.2 v22).bind (fun v23 =>
 ((call (Fn.func 111) [(SV.one v23), (SV.one v21), (SV.one (I 10000))] r12.2.2).bind (fun r24 =>
 (un1 r24.1 (fun v25 =>
 ((un UnOp.not v25).bind (fun v26 =>
 (condV v26 (some ((SV.one (Value.bool false)), r24.2)) ((padd 1 v18).bind (fun v27 =>
 ((pld r24.2 v27).bind (fun v28 =>
 ((ibin BinOp.eql v28 (I 1)).bind (fun v29 =>
 (condV v29 ((padd 2 v18).bind (fun v30 =>
 ((pld r24.2 v30).bind (fun v31 =>
 ((padd 0 v15).bind (fun v32 =>
 ((padd 0 v32).bind (fun v33 =>
 ((pld r24.2 v33).bind (fun v34 =>
 ((lenS v34).bind (fun v35 =>
 ((ibin BinOp.sub v35 (I 1)).bind (fun v36 =>
 ((call (Fn.func 111) [(SV.one v31), (SV.one (I 0)), (SV.one v36)] r24.2).bind (fun r37 =>
 (un1 r37.1 (fun v38 =>
 ((gsel v38 true ((pldn r37.2 4 v15).bind (fun l39 =>
 ((padd 2 v18).bind (fun v40 =>
 ((pld r37.2 v40).bind (fun v41 =>
 ((padd 3 v18).bind (fun v42 =>
 ((pld r37.2 v42).bind (fun v43 =>
 ((padd 4 v18).bind (fun v44 =>
 ((pld r37.2 v44).bind (fun v45 =>
 ((call (Fn.func 236) [(SV.agg l39), (SV.one v41), (SV.one v43), (SV.one v45)] r37.2).bind (fun r46 =>
 (un1 r46.1 (fun v47 =>
 (some (v47, r46.2)))))))))))))))))))) (some ((Value.bool false), r37.2))).bind (fun r48 =>
 (some ((SV.one r48.1), r48.2)))))))))))))))))))))) ((ibin BinOp.eql v28 (I 2)).bind (fun v49 =>
 (condV v49 ((pldn r24.2 4 v15).bind (fun l50 =>
 ((padd 2 v18).bind (fun v51 =>
 ((pld r24.2 v51).bind (fun v52 =>
 ((call (Fn.func 130) [(SV.agg l50), (SV.one v52)] r24.2).bind (fun r53 =>
 (un1 r53.1 (fun v54 =>
 ((gsel v54 true ((padd 3 v18).bind (fun v55 =>
 ((pld r53.2 v55).bind (fun v56 =>
 ((call (Fn.func 111) [(SV.one v56), (SV.one (I 1)), (SV.one (I 3))] r53.2).bind (fun r57 =>
 (un1 r57.1 (fun v58 =>
 (some (v58, r57.2)))))))))) (some ((Value.bool false), r53.2))).bind (fun r59 =>
 ((gsel r59.1 true ((padd 4 v18).bind (fun v60 =>
 ((pld r59.2 v60).bind (fun v61 =>
 ((ibin BinOp.eql v61 (I 0)).bind (fun v62 =>
 (some (v62, r59.2)))))))) (some ((Value.bool false), r59.2))).bind (fun r63 =>
 (some ((SV.one r63.1), r63.2)))))))))))))))) ((ibin BinOp.eql v28 (I 3)).bind (fun v64 =>
 (condV v64 ((padd 2 v18).bind (fun v65 =>
 ((pld r24.2 v65).bind (fun v66 =>
 ((padd 3 v15).bind (fun v67 =>
 ((pld r24.2 v67).bind (fun v68 =>
 ((lenS v68).bind (fun v69 =>
 ((ibin BinOp.sub v69 (I 1)).bind (fun v70 =>
 ((call (Fn.func 111) [(SV.one v66), (SV.one (I 0)), (SV.one v70)] r24.2).bind (fun r71 =>
 (un1 r71.1 (fun v72 =>
 ((gsel v72 true ((padd 3 v15).bind (fun v73 =>
 ((pld r71.2 v73).bind (fun v74 =>
 ((padd 2 v18).bind (fun v75 =>
 ((pld r71.2 v75).bind (fun v76 =>
 ((idxS 5 v74 v76).bind (fun v77 =>
 ((padd 1 v77).bind (fun v78 =>
 ((pld r71.2 v78).bind (fun v79 =>
 ((ibin BinOp.eql v79 (I 2)).bind (fun v80 =>
 (some (v80, r71.2)))))))))))))))))) (some ((Value.bool false), r71.2))).bind (fun r81 =>
 ((gsel r81.1 true ((pldn r81.2 4 v15).bind (fun l82 =>
 ((padd 2 v18).bind (fun v83 =>
 ((pld r81.2 v83).bind (fun v84 =>
 ((call (Fn.func 237) [(SV.agg l82), (SV.one v84)] r81.2).bind (fun r85 =>
 (un1 r85.1 (fun v86 =>
 ((un UnOp.not v86).bind (fun v87 =>
 (some (v87, r85.2)))))))))))))) (some ((Value.bool false), r81.2))).bind (fun r88 =>
 ((gsel r88.1 true ((pldn r88.2 4 v15).bind (fun l89 =>
 ((padd 3 v18).bind (fun v90 =>
 ((pld r88.2 v90).bind (fun v91 =>
 ((call (Fn.func 238) [(SV.agg l89), (SV.one v91)] r88.2).bind (fun r92 =>
 (un1 r92.1 (fun v93 =>
 (some (v93, r92.2)))))))))))) (some ((Value.bool false), r88.2))).bind (fun r94 =>
 ((gsel r94.1 true ((padd 4 v18).bind (fun v95 =>
 ((pld r94.2 v95).bind (fun v96 =>
 ((ibin BinOp.eql v96 (I 0)).bind (fun v97 =>
 (some (v97, r94.2)))))))) (some ((Value.bool false), r94.2))).bind (fun r98 =>
 (some ((SV.one r98.1), r98.2)))))))))))))))))))))))))) ((ibin BinOp.eql v28 (I 4)).bind (fun v99 =>
 (condV v99 ((pldn r24.2 4 v15).bind (fun l100 =>
 ((padd 2 v18).bind (fun v101 =>
 ((pld r24.2 v101).bind (fun v102 =>
 ((call (Fn.func 130) [(SV.agg l100), (SV.one v102)] r24.2).bind (fun r103 =>
 (un1 r103.1 (fun v104 =>
 ((gsel v104 true ((pldn r103.2 4 v15).bind (fun l105 =>
 ((padd 3 v18).bind (fun v106 =>
 ((pld r103.2 v106).bind (fun v107 =>
 ((call (Fn.func 238) [(SV.agg l105), (SV.one v107)] r103.2).bind (fun r108 =>
 (un1 r108.1 (fun v109 =>
 (some (v109, r108.2)))))))))))) (some ((Value.bool false), r103.2))).bind (fun r110 =>
 ((gsel r110.1 true ((padd 4 v18).bind (fun v111 =>
 ((pld r110.2 v111).bind (fun v112 =>
 ((ibin BinOp.eql v112 (I 0)).bind (fun v113 =>
 (some (v113, r110.2)))))))) (some ((Value.bool false), r110.2))).bind (fun r114 =>
 (some ((SV.one r114.1), r114.2)))))))))))))))) ((ibin BinOp.eql v28 (I 5)).bind (fun v115 =>
 (condV v115 ((pldn r24.2 4 v15).bind (fun l116 =>
 ((padd 2 v18).bind (fun v117 =>
 ((pld r24.2 v117).bind (fun v118 =>
 ((call (Fn.func 130) [(SV.agg l116), (SV.one v118)] r24.2).bind (fun r119 =>
 (un1 r119.1 (fun v120 =>
 ((gsel v120 true ((padd 3 v18).bind (fun v121 =>
 ((pld r119.2 v121).bind (fun v122 =>
 ((call (Fn.func 111) [(SV.one v122), (SV.one (I 0)), (SV.one (I 10000))] r119.2).bind (fun r123 =>
 (un1 r123.1 (fun v124 =>
 (some (v124, r123.2)))))))))) (some ((Value.bool false), r119.2))).bind (fun r125 =>
 ((gsel r125.1 true ((padd 4 v18).bind (fun v126 =>
 ((pld r125.2 v126).bind (fun v127 =>
 ((ibin BinOp.eql v127 (I 0)).bind (fun v128 =>
 (some (v128, r125.2)))))))) (some ((Value.bool false), r125.2))).bind (fun r129 =>
 (some ((SV.one r129.1), r129.2)))))))))))))))) ((ibin BinOp.eql v28 (I 6)).bind (fun v130 =>
 (condV v130 ((pldn r24.2 4 v15).bind (fun l131 =>
 ((padd 2 v18).bind (fun v132 =>
 ((pld r24.2 v132).bind (fun v133 =>
 ((call (Fn.func 130) [(SV.agg l131), (SV.one v133)] r24.2).bind (fun r134 =>
 (un1 r134.1 (fun v135 =>
 ((gsel v135 true ((padd 3 v18).bind (fun v136 =>
 ((pld r134.2 v136).bind (fun v137 =>
 ((ibin BinOp.eql v137 (I 0)).bind (fun v138 =>
 (some (v138, r134.2)))))))) (some ((Value.bool false), r134.2))).bind (fun r139 =>
 ((gsel r139.1 true ((padd 4 v18).bind (fun v140 =>
 ((pld r139.2 v140).bind (fun v141 =>
 ((ibin BinOp.eql v141 (I 0)).bind (fun v142 =>
 (some (v142, r139.2)))))))) (some ((Value.bool false), r139.2))).bind (fun r143 =>
 (some ((SV.one r143.1), r143.2)))))))))))))))) (some ((SV.one (Value.bool false)), r24.2)))))))))))))))))))))))))))))))))))))))))))))))) (fun i144 =>
 none) (fun x145 =>
 (some (x145, r12.2.2))))))))))))))
theorem F182_eq (call : CallT) (N : Nat) (as0 : List Value) (as1 : List Value) (h : H) : execF Proofs.Tryz.prog call hints N 182 [(SV.agg as0), (SV.agg as1)] h = F182 call N as0 as1 h := by kernel_rfl
-- f186
noncomputable def LP186_0 (call : CallT) (N : Nat) : Nat → List SV → H → Option X := loopIt (fun st h k => exec Proofs.Tryz.prog call N (some Proofs.Tryz.f186.results) (((Proofs.Tryz.f186).body.getD .skip).l2.l1.l2.l1).l1 (hl1 (hl1 (hl2 (hl1 (hl2 (hints 186)))))) st h k) [(0, Sh.one), (1, Sh.one), (7, Sh.one), (8, Sh.one)] (Join.mk [] [(0, [])]) 19
noncomputable def B186_0 (call : CallT) (N : Nat) (go : List SV → H → Option X) (a6 : Value) (a7 : Value) (a8 : Value) (a9 : Value) (h : H) : Option X :=
 ((ibin BinOp.lss a9 a8).bind (fun v10 =>
 (condV v10 ((idxS 5 a6 a9).bind (fun v11 =>
 ((pldn h 5 v11).bind (fun l12 =>
 ((callV call a7 [(SV.agg l12)] h).bind (fun r13 =>
 (un1 r13.1 (fun v14 =>
 (condV v14 (some ((Out.ret (SV.one a9)), ([], r13.2))) ((ibin BinOp.add a9 (I 1)).bind (fun v15 =>
 (go [(SV.one a6), (SV.one a7), (SV.one a8), (SV.one v15)] r13.2)))))))))))) (some ((Out.exit 0), ([], h))))))
theorem LP186_0_succ (call : CallT) (N m : Nat) (a6 : Value) (a7 : Value) (a8 : Value) (a9 : Value) (h : H) : LP186_0 call N (m + 1) [(SV.one a6), (SV.one a7), (SV.one a8), (SV.one a9)] h = B186_0 call N (LP186_0 call N m) a6 a7 a8 a9 h := by kernel_rfl
noncomputable def F186 (call : CallT) (N : Nat) (a0 : Value) (a1 : Value) (h : H) : Option (SV × H) :=
 ((lenS a0).bind (fun v2 =>
 ((LP186_0 call N N [(SV.one a0), (SV.one a1), (SV.one v2), (SV.one (I 0))] h).bind (fun r3 =>
 (outc r3.1 (unNil r3.2.1 (some ((SV.one (I (-1))), r3.2.2))) (fun i4 =>
 (ifN i4 0 (unNil r3.2.1 (some ((SV.one (I (-1))), r3.2.2))) none)) (fun x5 =>
 (some (x5, r3.2.2))))))))
theorem F186_eq (call : CallT) (N : Nat) (a0 : Value) (a1 : Value) (h : H) : execF Proofs.Tryz.prog call hints N 186 [(SV.one a0), (SV.one a1)] h = F186 call N a0 a1 h := by kernel_rfl
-- f187
noncomputable def F187 (call : CallT) (N : Nat) (as0 : List Value) (a1 : Value) (h : H) : Option (SV × H) :=
 ((padd 0 (ptr h.next 0)).bind (fun v2 =>
 ((pld (H.new h (Blk.cells as0 162 true)) v2).bind (fun v3 =>
 ((pld (H.new h (Blk.cells as0 162 true)) a1).bind (fun v4 =>
 ((ibin BinOp.gtr v3 v4).bind (fun v5 =>
 (some ((SV.one v5), (H.new h (Blk.cells as0 162 true))))))))))))
theorem F187_eq (call : CallT) (N : Nat) (as0 : List Value) (a1 : Value) (h : H) : execF Proofs.Tryz.prog call hints N 187 [(SV.agg as0), (SV.one a1)] h = F187 call N as0 a1 h := by kernel_rfl
-- f188
noncomputable def F188 (call : CallT) (N : Nat) (as0 : List Value) (a1 : Value) (h : H) : Option (SV × H) :=
 ((pldn (hideL [] (H.new (H.new h (Blk.cells as0 112 true)) (Blk.cells [a1] 3 true))) 4 (ptr h.next 0)).bind (fun l2 =>
 ((padd 0 (ptr h.next 0)).bind (fun v3 =>
 ((padd 0 v3).bind (fun v4 =>
 ((pld (hideL [] (H.new (H.new h (Blk.cells as0 112 true)) (Blk.cells [a1] 3 true))) v4).bind (fun v5 =>
 ((pld (hideL [] (H.new (H.new h (Blk.cells as0 112 true)) (Blk.cells [a1] 3 true))) (ptr (h.next + 1) 0)).bind (fun v6 =>
 ((idxS 4 v5 v6).bind (fun v7 =>
 ((padd 0 v7).bind (fun v8 =>
 ((pld (hideL [] (H.new (H.new h (Blk.cells as0 112 true)) (Blk.cells [a1] 3 true))) v8).bind (fun v9 =>
 ((call (Fn.func 116) [(SV.agg l2), (SV.one v9), (SV.one (Value.func (Fn.func 239) (Array.mk []) (Array.mk [(ptr (h.next + 1) 0)])))] (frzL [] (hideL [] (H.new (H.new h (Blk.cells as0 112 true)) (Blk.cells [a1] 3 true))))).bind (fun r10 =>
 (un1 r10.1 (fun v11 =>
 ((ibin BinOp.lss v11 (I 0)).bind (fun v12 =>
 (condV v12 (some ((SV.one (I (-1))), (thawL [] (H.new (H.new h (Blk.cells as0 112 true)) (Blk.cells [a1] 3 true)) r10.2))) ((padd 0 (ptr h.next 0)).bind (fun v13 =>
 ((padd 0 v13).bind (fun v14 =>
 ((pld (thawL [] (H.new (H.new h (Blk.cells as0 112 true)) (Blk.cells [a1] 3 true)) r10.2) v14).bind (fun v15 =>
 ((pld (thawL [] (H.new (H.new h (Blk.cells as0 112 true)) (Blk.cells [a1] 3 true)) r10.2) (ptr (h.next + 1) 0)).bind (fun v16 =>
 ((idxS 4 v15 v16).bind (fun v17 =>
 ((padd 1 v17).bind (fun v18 =>
 ((pld (thawL [] (H.new (H.new h (Blk.cells as0 112 true)) (Blk.cells [a1] 3 true)) r10.2) v18).bind (fun v19 =>
 ((ibin BinOp.add v11 v19).bind (fun v20 =>
 ((ibin BinOp.sub v20 (I 1)).bind (fun v21 =>
 (some ((SV.one v21), (thawL [] (H.new (H.new h (Blk.cells as0 112 true)) (Blk.cells [a1] 3 true)) r10.2))))))))))))))))))))))))))))))))))))))))))))
theorem F188_eq (call : CallT) (N : Nat) (as0 : List Value) (a1 : Value) (h : H) : execF Proofs.Tryz.prog call hints N 188 [(SV.agg as0), (SV.one a1)] h = F188 call N as0 a1 h := by kernel_rfl
-- f189
noncomputable def LP189_0 (call : CallT) (N : Nat) : Nat → List SV → H → Option X := loopIt (fun st h k => exec Proofs.Tryz.prog call N (some Proofs.Tryz.f189.results) (((Proofs.Tryz.f189).body.getD .skip).l2.l1.l2.l1).l1 (hl1 (hl1 (hl2 (hl1 (hl2 (hints 189)))))) st h k) [(1, Sh.one), (2, Sh.one), (6, Sh.one), (7, Sh.one), (8, Sh.one)] (Join.mk [] [(0, [(2, Sh.one)])]) 28
noncomputable def B189_0 (call : CallT) (N : Nat) (go : List SV → H → Option X) (a10 : Value) (a11 : Value) (a12 : Value) (a13 : Value) (a14 : Value) (h : H) : Option X :=
 ((ibin BinOp.lss a14 a13).bind (fun v15 =>
 (condV v15 (((idxS 5 a12 a14).bind (fun v16 =>
 ((pldn h 5 v16).bind (fun l17 =>
 (ifLen l17 5 ((pstn (H.new h (Blk.cells [(I 0), (I 0), (I 0), (I 0), (I 0)] 162 true)) l17 (ptr h.next 0)).bind (fun h18 =>
 ((padd 1 (ptr h.next 0)).bind (fun v19 =>
 ((pld h18 v19).bind (fun v20 =>
 ((ibin BinOp.eql v20 (I 2)).bind (fun v21 =>
 ((gsel v21 true ((pldn h18 4 a10).bind (fun l22 =>
 ((call (Fn.func 237) [(SV.agg l22), (SV.one a14)] h18).bind (fun r23 =>
 (un1 r23.1 (fun v24 =>
 ((un UnOp.not v24).bind (fun v25 =>
 (some (v25, r23.2)))))))))) (some ((Value.bool false), h18))).bind (fun r26 =>
 ((condV r26.1 ((H.appS (H.new r26.2 (Blk.cells [a14] 3 true)) 1 3 (slc r26.2.next 0 1 1) a11).bind (fun r27 =>
 (some (Out.normal, ([(SV.one a10), (SV.one r27.1), (SV.one a12), (SV.one a13), (SV.one a14)], r27.2))))) (some (Out.normal, ([(SV.one a10), (SV.one a11), (SV.one a12), (SV.one a13), (SV.one a14)], r26.2)))).bind (fun r28 =>
 (outc r28.1 (unConD r28.2.1 (fun x29 l30 =>
 (un1 x29 (fun v31 =>
 (unConD l30 (fun x32 l33 =>
 (un1 x32 (fun v34 =>
 (unConD l33 (fun x35 l36 =>
 (un1 x35 (fun v37 =>
 (unConD l36 (fun x38 l39 =>
 (un1 x38 (fun v40 =>
 (unConD l39 (fun x41 l42 =>
 (un1 x41 (fun v43 =>
 (unNil l42 (some (Out.normal, ([(SV.one v31), (SV.one v34), (SV.one v37), (SV.one v40), (SV.one v43)], r28.2.2)))))))))))))))))))))))) (fun i44 =>
 none) (fun x45 =>
 (some ((Out.ret x45), ([], r28.2.2)))))))))))))))))))))).bind (fun r46 =>
 (outc r46.1 (unConD r46.2.1 (fun x47 l48 =>
 (un1 x47 (fun v49 =>
 (unConD l48 (fun x50 l51 =>
 (un1 x50 (fun v52 =>
 (unConD l51 (fun x53 l54 =>
 (un1 x53 (fun v55 =>
 (unConD l54 (fun x56 l57 =>
 (un1 x56 (fun v58 =>
 (unConD l57 (fun x59 l60 =>
 (un1 x59 (fun v61 =>
 (unNil l60 ((ibin BinOp.add v61 (I 1)).bind (fun v62 =>
 (go [(SV.one v49), (SV.one v52), (SV.one v55), (SV.one v58), (SV.one v62)] r46.2.2)))))))))))))))))))))))) (fun i63 =>
 none) (fun x64 =>
 (some ((Out.ret x64), ([], r46.2.2))))))) (some ((Out.exit 0), ([(SV.one a11)], h))))))
theorem LP189_0_succ (call : CallT) (N m : Nat) (a10 : Value) (a11 : Value) (a12 : Value) (a13 : Value) (a14 : Value) (h : H) : LP189_0 call N (m + 1) [(SV.one a10), (SV.one a11), (SV.one a12), (SV.one a13), (SV.one a14)] h = B189_0 call N (LP189_0 call N m) a10 a11 a12 a13 a14 h := by kernel_rfl
noncomputable def F189 (call : CallT) (N : Nat) (as0 : List Value) (h : H) : Option (SV × H) :=
 ((padd 3 (ptr h.next 0)).bind (fun v1 =>
 ((pld (H.new h (Blk.cells as0 112 true)) v1).bind (fun v2 =>
 ((lenS v2).bind (fun v3 =>
 ((LP189_0 call N N [(SV.one (ptr h.next 0)), (SV.one (Value.slice none 0 0)), (SV.one v2), (SV.one v3), (SV.one (I 0))] (H.new h (Blk.cells as0 112 true))).bind (fun r4 =>
 (outc r4.1 (unNil r4.2.1 none) (fun i5 =>
 (ifN i5 0 (unConD r4.2.1 (fun x6 l7 =>
 (un1 x6 (fun v8 =>
 (unNil l7 (some ((SV.one v8), r4.2.2))))))) none)) (fun x9 =>
 (some (x9, r4.2.2))))))))))))
theorem F189_eq (call : CallT) (N : Nat) (as0 : List Value) (h : H) : execF Proofs.Tryz.prog call hints N 189 [(SV.agg as0)] h = F189 call N as0 h := by kernel_rfl
-- f190
noncomputable def F190 (call : CallT) (N : Nat) (as0 : List Value) (h : H) : Option (SV × H) :=
 (some ((SV.one (Value.func (Fn.func 240) (Array.mk []) (Array.mk [(ptr h.next 0)]))), (H.new h (Blk.cells as0 112 true))))
theorem F190_eq (call : CallT) (N : Nat) (as0 : List Value) (h : H) : execF Proofs.Tryz.prog call hints N 190 [(SV.agg as0)] h = F190 call N as0 h := by kernel_rfl
-- f191
noncomputable def F191 (call : CallT) (N : Nat) (as0 : List Value) (a1 : Value) (h : H) : Option (SV × H) :=
 (some ((SV.one (Value.func (Fn.func 242) (Array.mk []) (Array.mk [(ptr (h.next + 1) 0), (ptr h.next 0)]))), (H.new (H.new h (Blk.cells as0 33 true)) (Blk.cells [a1] 3 true))))
theorem F191_eq (call : CallT) (N : Nat) (as0 : List Value) (a1 : Value) (h : H) : execF Proofs.Tryz.prog call hints N 191 [(SV.agg as0), (SV.one a1)] h = F191 call N as0 a1 h := by kernel_rfl
-- f231
noncomputable def LP231_0 (call : CallT) (N : Nat) : Nat → List SV → H → Option X := loopIt (fun st h k => exec Proofs.Tryz.prog call N (some Proofs.Tryz.f231.results) (((Proofs.Tryz.f231).body.getD .skip).l2.l1.l2.l1).l1 (hl1 (hl1 (hl2 (hl1 (hl2 (hints 231)))))) st h k) [(0, Sh.one), (1, Sh.one), (7, Sh.one), (8, Sh.one)] (Join.mk [] [(0, [])]) 19
noncomputable def B231_0 (call : CallT) (N : Nat) (go : List SV → H → Option X) (a6 : Value) (a7 : Value) (a8 : Value) (a9 : Value) (h : H) : Option X :=
 ((ibin BinOp.lss a9 a8).bind (fun v10 =>
 (condV v10 ((idxS 5 a6 a9).bind (fun v11 =>
 ((pldn h 5 v11).bind (fun l12 =>
 ((callV call a7 [(SV.agg l12)] h).bind (fun r13 =>
 (un1 r13.1 (fun v14 =>
 (condV v14 (some ((Out.ret (SV.one a9)), ([], r13.2))) ((ibin BinOp.add a9 (I 1)).bind (fun v15 =>
 (go [(SV.one a6), (SV.one a7), (SV.one a8), (SV.one v15)] r13.2)))))))))))) (some ((Out.exit 0), ([], h))))))
theorem LP231_0_succ (call : CallT) (N m : Nat) (a6 : Value) (a7 : Value) (a8 : Value) (a9 : Value) (h : H) : LP231_0 call N (m + 1) [(SV.one a6), (SV.one a7), (SV.one a8), (SV.one a9)] h = B231_0 call N (LP231_0 call N m) a6 a7 a8 a9 h := by kernel_rfl
noncomputable def F231 (call : CallT) (N : Nat) (a0 : Value) (a1 : Value) (h : H) : Option (SV × H) :=
 ((lenS a0).bind (fun v2 =>
 ((LP231_0 call N N [(SV.one a0), (SV.one a1), (SV.one v2), (SV.one (I 0))] h).bind (fun r3 =>
 (outc r3.1 (unNil r3.2.1 (some ((SV.one (I (-1))), r3.2.2))) (fun i4 =>
 (ifN i4 0 (unNil r3.2.1 (some ((SV.one (I (-1))), r3.2.2))) none)) (fun x5 =>
 (some (x5, r3.2.2))))))))
theorem F231_eq (call : CallT) (N : Nat) (a0 : Value) (a1 : Value) (h : H) : execF Proofs.Tryz.prog call hints N 231 [(SV.one a0), (SV.one a1)] h = F231 call N a0 a1 h := by kernel_rfl
-- f232
noncomputable def F232 (call : CallT) (N : Nat) (a0 : Value) (a1 : Value) (h : H) : Option (SV × H) :=
 ((call (Fn.func 282) [(SV.one a0), (SV.one a1)] h).bind (fun r2 =>
 (un1 r2.1 (fun v3 =>
 ((ibin BinOp.geq v3 (I 0)).bind (fun v4 =>
 (some ((SV.one v4), r2.2))))))))
theorem F232_eq (call : CallT) (N : Nat) (a0 : Value) (a1 : Value) (h : H) : execF Proofs.Tryz.prog call hints N 232 [(SV.one a0), (SV.one a1)] h = F232 call N a0 a1 h := by kernel_rfl
-- f233
noncomputable def F233 (call : CallT) (N : Nat) (as0 : List Value) (a1 : Value) (h : H) : Option (SV × H) :=
 ((padd 0 (ptr h.next 0)).bind (fun v2 =>
 ((pld (H.new h (Blk.cells as0 249 true)) v2).bind (fun v3 =>
 ((padd 2 a1).bind (fun v4 =>
 ((pld (H.new h (Blk.cells as0 249 true)) v4).bind (fun v5 =>
 ((lenS v5).bind (fun v6 =>
 ((ibin BinOp.sub v6 (I 1)).bind (fun v7 =>
 ((call (Fn.func 111) [(SV.one v3), (SV.one (I 0)), (SV.one v7)] (H.new h (Blk.cells as0 249 true))).bind (fun r8 =>
 (un1 r8.1 (fun v9 =>
 ((un UnOp.not v9).bind (fun v10 =>
 ((gsel v10 false ((padd 1 (ptr h.next 0)).bind (fun v11 =>
 ((pld r8.2 v11).bind (fun v12 =>
 ((call (Fn.func 111) [(SV.one v12), (SV.one (I 1)), (SV.one (I 10000))] r8.2).bind (fun r13 =>
 (un1 r13.1 (fun v14 =>
 ((un UnOp.not v14).bind (fun v15 =>
 (some (v15, r13.2)))))))))))) (some ((Value.bool true), r8.2))).bind (fun r16 =>
 ((gsel r16.1 false ((padd 2 (ptr h.next 0)).bind (fun v17 =>
 ((pld r16.2 v17).bind (fun v18 =>
 ((call (Fn.func 111) [(SV.one v18), (SV.one (I 0)), (SV.one (I 9))] r16.2).bind (fun r19 =>
 (un1 r19.1 (fun v20 =>
 ((un UnOp.not v20).bind (fun v21 =>
 (some (v21, r19.2)))))))))))) (some ((Value.bool true), r16.2))).bind (fun r22 =>
 (some ((SV.one r22.1), r22.2))))))))))))))))))))))))
theorem F233_eq (call : CallT) (N : Nat) (as0 : List Value) (a1 : Value) (h : H) : execF Proofs.Tryz.prog call hints N 233 [(SV.agg as0), (SV.one a1)] h = F233 call N as0 a1 h := by kernel_rfl
-- f234
noncomputable def F234 (call : CallT) (N : Nat) (a0 : Value) (h : H) : Option (SV × H) :=
 ((call (Fn.func 111) [(SV.one a0), (SV.one (I 0)), (SV.one (I 9))] h).bind (fun r1 =>
 (un1 r1.1 (fun v2 =>
 ((un UnOp.not v2).bind (fun v3 =>
 (some ((SV.one v3), r1.2))))))))
theorem F234_eq (call : CallT) (N : Nat) (a0 : Value) (h : H) : execF Proofs.Tryz.prog call hints N 234 [(SV.one a0)] h = F234 call N a0 h := by kernel_rfl
-- f235
noncomputable def F235 (call : CallT) (N : Nat) (a0 : Value) (h : H) : Option (SV × H) :=
 ((call (Fn.func 111) [(SV.one a0), (SV.one (I 0)), (SV.one (I 10000))] h).bind (fun r1 =>
 (un1 r1.1 (fun v2 =>
 ((un UnOp.not v2).bind (fun v3 =>
 (some ((SV.one v3), r1.2))))))))
theorem F235_eq (call : CallT) (N : Nat) (a0 : Value) (h : H) : execF Proofs.Tryz.prog call hints N 235 [(SV.one a0)] h = F235 call N a0 h := by kernel_rfl
-- f236
noncomputable def F236 (call : CallT) (N : Nat) (as0 : List Value) (a1 : Value) (a2 : Value) (a3 : Value) (h : H) : Option (SV × H) :=
 ((padd 0 (ptr h.next 0)).bind (fun v4 =>
 ((padd 0 v4).bind (fun v5 =>
 ((pld (H.new h (Blk.cells as0 112 true)) v5).bind (fun v6 =>
 ((idxS 4 v6 a1).bind (fun v7 =>
 ((padd 3 v7).bind (fun v8 =>
 ((pld (H.new h (Blk.cells as0 112 true)) v8).bind (fun v9 =>
 ((un UnOp.not v9).bind (fun v10 =>
 (condV v10 ((pldn (H.new h (Blk.cells as0 112 true)) 4 (ptr h.next 0)).bind (fun l11 =>
 ((call (Fn.func 283) [(SV.agg l11), (SV.one a1), (SV.one a2)] (H.new h (Blk.cells as0 112 true))).bind (fun r12 =>
 (un1 r12.1 (fun v13 =>
 ((gsel v13 true ((ibin BinOp.eql a3 (I (-1))).bind (fun v14 =>
 (some (v14, r12.2)))) (some ((Value.bool false), r12.2))).bind (fun r15 =>
 (some ((SV.one r15.1), r15.2)))))))))) ((pldn (H.new h (Blk.cells as0 112 true)) 4 (ptr h.next 0)).bind (fun l16 =>
 ((call (Fn.func 283) [(SV.agg l16), (SV.one a1), (SV.one a2)] (H.new h (Blk.cells as0 112 true))).bind (fun r17 =>
 (un1 r17.1 (fun v18 =>
 ((gsel v18 true ((pldn r17.2 4 (ptr h.next 0)).bind (fun l19 =>
 ((call (Fn.func 283) [(SV.agg l19), (SV.one a1), (SV.one a3)] r17.2).bind (fun r20 =>
 (un1 r20.1 (fun v21 =>
 (some (v21, r20.2)))))))) (some ((Value.bool false), r17.2))).bind (fun r22 =>
 ((gsel r22.1 true ((ibin BinOp.neq a2 a3).bind (fun v23 =>
 (some (v23, r22.2)))) (some ((Value.bool false), r22.2))).bind (fun r24 =>
 (some ((SV.one r24.1), r24.2)))))))))))))))))))))))))))
theorem F236_eq (call : CallT) (N : Nat) (as0 : List Value) (a1 : Value) (a2 : Value) (a3 : Value) (h : H) : execF Proofs.Tryz.prog call hints N 236 [(SV.agg as0), (SV.one a1), (SV.one a2), (SV.one a3)] h = F236 call N as0 a1 a2 a3 h := by kernel_rfl
-- f237
noncomputable def F237 (call : CallT) (N : Nat) (as0 : List Value) (a1 : Value) (h : H) : Option (SV × H) :=
 ((padd 3 (ptr h.next 0)).bind (fun v2 =>
 ((pld (H.new (H.new h (Blk.cells as0 112 true)) (Blk.cells [a1] 3 true)) v2).bind (fun v3 =>
 ((call (Fn.func 284) [(SV.one v3), (SV.one (Value.func (Fn.func 285) (Array.mk []) (Array.mk [(ptr (h.next + 1) 0)])))] (H.new (H.new h (Blk.cells as0 112 true)) (Blk.cells [a1] 3 true))).bind (fun r4 =>
 (un1 r4.1 (fun v5 =>
 (some ((SV.one v5), r4.2))))))))))
theorem F237_eq (call : CallT) (N : Nat) (as0 : List Value) (a1 : Value) (h : H) : execF Proofs.Tryz.prog call hints N 237 [(SV.agg as0), (SV.one a1)] h = F237 call N as0 a1 h := by kernel_rfl
-- f238
noncomputable def F238 (call : CallT) (N : Nat) (as0 : List Value) (a1 : Value) (h : H) : Option (SV × H) :=
 ((padd 0 (ptr h.next 0)).bind (fun v2 =>
 ((padd 1 v2).bind (fun v3 =>
 ((pld (H.new h (Blk.cells as0 112 true)) v3).bind (fun v4 =>
 ((lenS v4).bind (fun v5 =>
 ((ibin BinOp.sub v5 (I 1)).bind (fun v6 =>
 ((call (Fn.func 111) [(SV.one a1), (SV.one (I 0)), (SV.one v6)] (H.new h (Blk.cells as0 112 true))).bind (fun r7 =>
 (un1 r7.1 (fun v8 =>
 (some ((SV.one v8), r7.2))))))))))))))))
theorem F238_eq (call : CallT) (N : Nat) (as0 : List Value) (a1 : Value) (h : H) : execF Proofs.Tryz.prog call hints N 238 [(SV.agg as0), (SV.one a1)] h = F238 call N as0 a1 h := by kernel_rfl
-- f239
noncomputable def F239 (call : CallT) (N : Nat) (as0 : List Value) (a1 : Value) (h : H) : Option (SV × H) :=
 ((padd 1 (ptr h.next 0)).bind (fun v2 =>
 ((pld (H.new h (Blk.cells as0 162 true)) v2).bind (fun v3 =>
 ((ibin BinOp.eql v3 (I 1)).bind (fun v4 =>
 ((gsel v4 true ((padd 2 (ptr h.next 0)).bind (fun v5 =>
 ((pld (H.new h (Blk.cells as0 162 true)) v5).bind (fun v6 =>
 ((pld (H.new h (Blk.cells as0 162 true)) a1).bind (fun v7 =>
 ((ibin BinOp.eql v6 v7).bind (fun v8 =>
 (some (v8, (H.new h (Blk.cells as0 162 true)))))))))))) (some ((Value.bool false), (H.new h (Blk.cells as0 162 true))))).bind (fun r9 =>
 (some ((SV.one r9.1), r9.2))))))))))
theorem F239_eq (call : CallT) (N : Nat) (as0 : List Value) (a1 : Value) (h : H) : execF Proofs.Tryz.prog call hints N 239 [(SV.agg as0), (SV.one a1)] h = F239 call N as0 a1 h := by kernel_rfl
-- f240
noncomputable def LB240_0 (p0 : Value) (p1 : Value) (p2 : Value) (p3 : Value) (p4 : Value) (p5 : Value) : Blk := .loop .ready none 0 ⟨(.n (some (.one p0)) (.n (some (.one p1)) (.n (some .undef) (.n (some (.one p2)) .e .e) .e) (.n (some (.one p3)) .e .e)) (.n (some (.one p4)) .e (.n (some (.one p5)) .e .e))), 14, some .undef⟩ #[8, 9] (((Proofs.Tryz.f240).body.getD .skip).l2.l2.l1).l1 (((Proofs.Tryz.f240).body.getD .skip).l2.l2.l1).l2 (hl1 (hl1 (hl2 (hl2 (hints 240))))) (hl2 (hl1 (hl2 (hl2 (hints 240)))))
noncomputable def F240 (call : CallT) (N : Nat) (a0 : Value) (a1 : Value) (h : H) : Option (SV × H) :=
 ((padd 3 a1).bind (fun v2 =>
 ((pld (H.new h (Blk.cells [a0] 179 true)) v2).bind (fun v3 =>
 ((call (Fn.func 241) [(SV.one v3)] (H.new h (Blk.cells [a0] 179 true))).bind (fun r4 =>
 (un1 r4.1 (fun v5 =>
 ((callG call v5 [(SV.one (Value.func (Fn.yield r4.2.next) (Array.mk []) (Array.mk [])))] (H.new r4.2 (LB240_0 a0 a1 v5 v2 (ptr h.next 0) v3))).bind (fun r6 =>
 (endL r4.2.next r6.2 (fun h7 =>
 (some ((SV.tup []), h7))) (fun i8 h9 =>
 (ifN i8 0 (some ((SV.tup []), h9)) none)) (fun h10 =>
 (some ((SV.tup []), h10))))))))))))))
theorem F240_eq (call : CallT) (N : Nat) (a0 : Value) (a1 : Value) (h : H) : execF Proofs.Tryz.prog call hints N 240 [(SV.one a0), (SV.one a1)] h = F240 call N a0 a1 h := by kernel_rfl
noncomputable def Y240_0 (call : CallT) (N l : Nat) (p0 : Value) (p1 : Value) (p2 : Value) (p3 : Value) (p4 : Value) (p5 : Value) (y0 : Value) (y1 : List Value) (h : H) : Option (SV × H) :=
 (ifLen y1 5 ((pstn (H.new h (Blk.cells [(I 0), (I 0), (I 0), (I 0), (I 0)] 162 true)) y1 (ptr h.next 0)).bind (fun h11 =>
 (begR l h11 (fun h12 =>
 ((pld h12 p4).bind (fun v13 =>
 ((pldn h12 5 (ptr h.next 0)).bind (fun l14 =>
 ((callV call v13 [(SV.agg l14)] h12).bind (fun r15 =>
 (un1 r15.1 (fun v16 =>
 ((un UnOp.not v16).bind (fun v17 =>
 (condV v17 (endR l (some Code.ret) r15.2) (endR l none r15.2)))))))))))))))))
theorem Y240_0_eq (call : CallT) (N l : Nat) (p0 : Value) (p1 : Value) (p2 : Value) (p3 : Value) (p4 : Value) (p5 : Value) (y0 : Value) (y1 : List Value) (h : H) : yieldK Proofs.Tryz.prog call N (LB240_0 p0 p1 p2 p3 p4 p5) l [(SV.one y0), (SV.agg y1)] h = Y240_0 call N l p0 p1 p2 p3 p4 p5 y0 y1 h := by kernel_rfl
-- f241
noncomputable def F241 (call : CallT) (N : Nat) (a0 : Value) (h : H) : Option (SV × H) :=
 (some ((SV.one (Value.func (Fn.func 286) (Array.mk []) (Array.mk [(ptr h.next 0)]))), (H.new h (Blk.cells [a0] 29 true))))
theorem F241_eq (call : CallT) (N : Nat) (a0 : Value) (h : H) : execF Proofs.Tryz.prog call hints N 241 [(SV.one a0)] h = F241 call N a0 h := by kernel_rfl
-- f242
noncomputable def LP242_0 (call : CallT) (N : Nat) : Nat → List SV → H → Option X := loopIt (fun st h k => exec Proofs.Tryz.prog call N (some Proofs.Tryz.f242.results) (((Proofs.Tryz.f242).body.getD .skip).l1.l1).l1 (hl1 (hl1 (hl1 (hints 242)))) st h k) [(0, Sh.one), (1, Sh.one), (2, Sh.one)] (Join.mk [] [(0, [(0, Sh.one)])]) 18
noncomputable def B242_0 (call : CallT) (N : Nat) (go : List SV → H → Option X) (a11 : Value) (a12 : Value) (a13 : Value) (h : H) : Option X :=
 ((pld h a12).bind (fun v14 =>
 ((ibin BinOp.geq v14 (I 0)).bind (fun v15 =>
 (condV v15 ((pld h a12).bind (fun v16 =>
 ((callV call a11 [(SV.one v16)] h).bind (fun r17 =>
 (un1 r17.1 (fun v18 =>
 ((un UnOp.not v18).bind (fun v19 =>
 (condV v19 (some ((Out.ret (SV.tup [])), ([], r17.2))) ((padd 0 a13).bind (fun v20 =>
 ((pld r17.2 v20).bind (fun v21 =>
 ((pld r17.2 a12).bind (fun v22 =>
 ((idxS 4 v21 v22).bind (fun v23 =>
 ((padd 0 v23).bind (fun v24 =>
 ((pld r17.2 v24).bind (fun v25 =>
 ((pst r17.2 v25 a12).bind (fun h26 =>
 (go [(SV.one a11), (SV.one a12), (SV.one a13)] h26)))))))))))))))))))))))) (some ((Out.exit 0), ([(SV.one a11)], h))))))))
theorem LP242_0_succ (call : CallT) (N m : Nat) (a11 : Value) (a12 : Value) (a13 : Value) (h : H) : LP242_0 call N (m + 1) [(SV.one a11), (SV.one a12), (SV.one a13)] h = B242_0 call N (LP242_0 call N m) a11 a12 a13 h := by kernel_rfl
noncomputable def F242 (call : CallT) (N : Nat) (a0 : Value) (a1 : Value) (a2 : Value) (h : H) : Option (SV × H) :=
 ((LP242_0 call N N [(SV.one a0), (SV.one a1), (SV.one a2)] h).bind (fun r3 =>
 (outc r3.1 (unNil r3.2.1 none) (fun i4 =>
 (ifN i4 0 (unConD r3.2.1 (fun x5 l6 =>
 (un1 x5 (fun v7 =>
 (unNil l6 ((callV call v7 [(SV.one (I (-1)))] r3.2.2).bind (fun r8 =>
 (un1 r8.1 (fun v9 =>
 (some ((SV.tup []), r8.2))))))))))) none)) (fun x10 =>
 (some (x10, r3.2.2))))))
theorem F242_eq (call : CallT) (N : Nat) (a0 : Value) (a1 : Value) (a2 : Value) (h : H) : execF Proofs.Tryz.prog call hints N 242 [(SV.one a0), (SV.one a1), (SV.one a2)] h = F242 call N a0 a1 a2 h := by kernel_rfl
-- f282
noncomputable def LP282_0 (call : CallT) (N : Nat) : Nat → List SV → H → Option X := loopIt (fun st h k => exec Proofs.Tryz.prog call N (some Proofs.Tryz.f282.results) (((Proofs.Tryz.f282).body.getD .skip).l2.l1.l2.l1).l1 (hl1 (hl1 (hl2 (hl1 (hl2 (hints 282)))))) st h k) [(0, Sh.one), (1, Sh.one), (7, Sh.one), (8, Sh.one)] (Join.mk [] [(0, [])]) 19
noncomputable def B282_0 (call : CallT) (N : Nat) (go : List SV → H → Option X) (a6 : Value) (a7 : Value) (a8 : Value) (a9 : Value) (h : H) : Option X :=
 ((ibin BinOp.lss a9 a8).bind (fun v10 =>
 (condV v10 ((idxS 4 a6 a9).bind (fun v11 =>
 ((pldn h 4 v11).bind (fun l12 =>
 ((callV call a7 [(SV.agg l12)] h).bind (fun r13 =>
 (un1 r13.1 (fun v14 =>
 (condV v14 (some ((Out.ret (SV.one a9)), ([], r13.2))) ((ibin BinOp.add a9 (I 1)).bind (fun v15 =>
 (go [(SV.one a6), (SV.one a7), (SV.one a8), (SV.one v15)] r13.2)))))))))))) (some ((Out.exit 0), ([], h))))))
theorem LP282_0_succ (call : CallT) (N m : Nat) (a6 : Value) (a7 : Value) (a8 : Value) (a9 : Value) (h : H) : LP282_0 call N (m + 1) [(SV.one a6), (SV.one a7), (SV.one a8), (SV.one a9)] h = B282_0 call N (LP282_0 call N m) a6 a7 a8 a9 h := by kernel_rfl
noncomputable def F282 (call : CallT) (N : Nat) (a0 : Value) (a1 : Value) (h : H) : Option (SV × H) :=
 ((lenS a0).bind (fun v2 =>
 ((LP282_0 call N N [(SV.one a0), (SV.one a1), (SV.one v2), (SV.one (I 0))] h).bind (fun r3 =>
 (outc r3.1 (unNil r3.2.1 (some ((SV.one (I (-1))), r3.2.2))) (fun i4 =>
 (ifN i4 0 (unNil r3.2.1 (some ((SV.one (I (-1))), r3.2.2))) none)) (fun x5 =>
 (some (x5, r3.2.2))))))))
theorem F282_eq (call : CallT) (N : Nat) (a0 : Value) (a1 : Value) (h : H) : execF Proofs.Tryz.prog call hints N 282 [(SV.one a0), (SV.one a1)] h = F282 call N a0 a1 h := by kernel_rfl
-- f283
noncomputable def F283 (call : CallT) (N : Nat) (as0 : List Value) (a1 : Value) (a2 : Value) (h : H) : Option (SV × H) :=
 ((pldn (hideL [] (H.new h (Blk.cells as0 112 true))) 4 (ptr h.next 0)).bind (fun l3 =>
 ((call (Fn.func 238) [(SV.agg l3), (SV.one a2)] (frzL [] (hideL [] (H.new h (Blk.cells as0 112 true))))).bind (fun r4 =>
 (un1 r4.1 (fun v5 =>
 ((gateS (SV.one v5) true ((padd 0 (ptr h.next 0)).bind (fun v6 =>
 (some ((some (SV.one v6)), (thawL [] (H.new h (Blk.cells as0 112 true)) r4.2))))) (some (none, (thawL [] (H.new h (Blk.cells as0 112 true)) r4.2)))).bind (fun r7 =>
 ((gateS (SV.one v5) true (un1 (ovS r7.1) (fun v8 =>
 ((padd 1 v8).bind (fun v9 =>
 (some ((some (SV.one v9)), r7.2)))))) (some (none, r7.2))).bind (fun r10 =>
 ((gateS (SV.one v5) true (un1 (ovS r10.1) (fun v11 =>
 ((pld (hideL [] r10.2) v11).bind (fun v12 =>
 (some ((some (SV.one v12)), r10.2)))))) (some (none, r10.2))).bind (fun r13 =>
 ((gateS (SV.one v5) true (some ((some (SV.one a2)), r13.2)) (some (none, r13.2))).bind (fun r14 =>
 ((gateS (SV.one v5) true (un1 (ovS r13.1) (fun v15 =>
 (un1 (ovS r14.1) (fun v16 =>
 ((idxS 1 v15 v16).bind (fun v17 =>
 (some ((some (SV.one v17)), r14.2)))))))) (some (none, r14.2))).bind (fun r18 =>
 ((gateS (SV.one v5) true (un1 (ovS r18.1) (fun v19 =>
 ((pld (hideL [] r18.2) v19).bind (fun v20 =>
 (some ((some (SV.one v20)), r18.2)))))) (some (none, r18.2))).bind (fun r21 =>
 ((gateS (SV.one v5) true ((padd 0 (ptr h.next 0)).bind (fun v22 =>
 (some ((some (SV.one v22)), r21.2)))) (some (none, r21.2))).bind (fun r23 =>
 ((gateS (SV.one v5) true (un1 (ovS r23.1) (fun v24 =>
 ((padd 0 v24).bind (fun v25 =>
 (some ((some (SV.one v25)), r23.2)))))) (some (none, r23.2))).bind (fun r26 =>
 ((gateS (SV.one v5) true (un1 (ovS r26.1) (fun v27 =>
 ((pld (hideL [] r26.2) v27).bind (fun v28 =>
 (some ((some (SV.one v28)), r26.2)))))) (some (none, r26.2))).bind (fun r29 =>
 ((gateS (SV.one v5) true (some ((some (SV.one a1)), r29.2)) (some (none, r29.2))).bind (fun r30 =>
 ((gateS (SV.one v5) true (un1 (ovS r29.1) (fun v31 =>
 (un1 (ovS r30.1) (fun v32 =>
 ((idxS 4 v31 v32).bind (fun v33 =>
 (some ((some (SV.one v33)), r30.2)))))))) (some (none, r30.2))).bind (fun r34 =>
 ((gateS (SV.one v5) true (un1 (ovS r34.1) (fun v35 =>
 ((padd 2 v35).bind (fun v36 =>
 (some ((some (SV.one v36)), r34.2)))))) (some (none, r34.2))).bind (fun r37 =>
 ((gateS (SV.one v5) true (un1 (ovS r37.1) (fun v38 =>
 ((pld (hideL [] r37.2) v38).bind (fun v39 =>
 (some ((some (SV.one v39)), r37.2)))))) (some (none, r37.2))).bind (fun r40 =>
 ((gateS (SV.one v5) true (un1 (ovS r21.1) (fun v41 =>
 (un1 (ovS r40.1) (fun v42 =>
 ((ibin BinOp.geq v41 v42).bind (fun v43 =>
 (some ((some (SV.one v43)), r40.2)))))))) (some (none, r40.2))).bind (fun r44 =>
 ((pickV v5 (some (ovS r44.1)) (some (SV.one (Value.bool false)))).bind (fun v45 =>
 (some ((SV.one v45), r44.2))))))))))))))))))))))))))))))))))))))
theorem F283_eq (call : CallT) (N : Nat) (as0 : List Value) (a1 : Value) (a2 : Value) (h : H) : execF Proofs.Tryz.prog call hints N 283 [(SV.agg as0), (SV.one a1), (SV.one a2)] h = F283 call N as0 a1 a2 h := by kernel_rfl
-- f284
noncomputable def F284 (call : CallT) (N : Nat) (a0 : Value) (a1 : Value) (h : H) : Option (SV × H) :=
 ((call (Fn.func 186) [(SV.one a0), (SV.one a1)] h).bind (fun r2 =>
 (un1 r2.1 (fun v3 =>
 ((ibin BinOp.geq v3 (I 0)).bind (fun v4 =>
 (some ((SV.one v4), r2.2))))))))
theorem F284_eq (call : CallT) (N : Nat) (a0 : Value) (a1 : Value) (h : H) : execF Proofs.Tryz.prog call hints N 284 [(SV.one a0), (SV.one a1)] h = F284 call N a0 a1 h := by kernel_rfl
-- f285
noncomputable def F285 (call : CallT) (N : Nat) (as0 : List Value) (a1 : Value) (h : H) : Option (SV × H) :=
 ((padd 1 (ptr h.next 0)).bind (fun v2 =>
 ((pld (H.new h (Blk.cells as0 162 true)) v2).bind (fun v3 =>
 ((ibin BinOp.eql v3 (I 3)).bind (fun v4 =>
 ((gsel v4 true ((padd 2 (ptr h.next 0)).bind (fun v5 =>
 ((pld (H.new h (Blk.cells as0 162 true)) v5).bind (fun v6 =>
 ((pld (H.new h (Blk.cells as0 162 true)) a1).bind (fun v7 =>
 ((ibin BinOp.eql v6 v7).bind (fun v8 =>
 (some (v8, (H.new h (Blk.cells as0 162 true)))))))))))) (some ((Value.bool false), (H.new h (Blk.cells as0 162 true))))).bind (fun r9 =>
 (some ((SV.one r9.1), r9.2))))))))))
theorem F285_eq (call : CallT) (N : Nat) (as0 : List Value) (a1 : Value) (h : H) : execF Proofs.Tryz.prog call hints N 285 [(SV.agg as0), (SV.one a1)] h = F285 call N as0 a1 h := by kernel_rfl
-- f286
noncomputable def LP286_0 (call : CallT) (N : Nat) : Nat → List SV → H → Option X := loopIt (fun st h k => exec Proofs.Tryz.prog call N (some Proofs.Tryz.f286.results) (((Proofs.Tryz.f286).body.getD .skip).l2.l1).l1 (hl1 (hl1 (hl2 (hints 286)))) st h k) [(0, Sh.one), (1, Sh.one), (3, Sh.one)] (Join.mk [] [(0, [])]) 19
noncomputable def B286_0 (call : CallT) (N : Nat) (go : List SV → H → Option X) (a8 : Value) (a9 : Value) (a10 : Value) (h : H) : Option X :=
 ((ibin BinOp.geq a10 (I 0)).bind (fun v11 =>
 (condV v11 ((pld h a9).bind (fun v12 =>
 ((idxS 5 v12 a10).bind (fun v13 =>
 ((pldn h 5 v13).bind (fun l14 =>
 ((callV call a8 [(SV.one a10), (SV.agg l14)] h).bind (fun r15 =>
 (un1 r15.1 (fun v16 =>
 ((un UnOp.not v16).bind (fun v17 =>
 (condV v17 (some ((Out.ret (SV.tup [])), ([], r15.2))) ((ibin BinOp.sub a10 (I 1)).bind (fun v18 =>
 (go [(SV.one a8), (SV.one a9), (SV.one v18)] r15.2)))))))))))))))) (some ((Out.exit 0), ([], h))))))
theorem LP286_0_succ (call : CallT) (N m : Nat) (a8 : Value) (a9 : Value) (a10 : Value) (h : H) : LP286_0 call N (m + 1) [(SV.one a8), (SV.one a9), (SV.one a10)] h = B286_0 call N (LP286_0 call N m) a8 a9 a10 h := by kernel_rfl
noncomputable def F286 (call : CallT) (N : Nat) (a0 : Value) (a1 : Value) (h : H) : Option (SV × H) :=
 ((pld h a1).bind (fun v2 =>
 ((lenS v2).bind (fun v3 =>
 ((ibin BinOp.sub v3 (I 1)).bind (fun v4 =>
 ((LP286_0 call N N [(SV.one a0), (SV.one a1), (SV.one v4)] h).bind (fun r5 =>
 (outc r5.1 (unNil r5.2.1 (some ((SV.tup []), r5.2.2))) (fun i6 =>
 (ifN i6 0 (unNil r5.2.1 (some ((SV.tup []), r5.2.2))) none)) (fun x7 =>
 (some (x7, r5.2.2))))))))))))
theorem F286_eq (call : CallT) (N : Nat) (a0 : Value) (a1 : Value) (h : H) : execF Proofs.Tryz.prog call hints N 286 [(SV.one a0), (SV.one a1)] h = F286 call N a0 a1 h := by kernel_rfl
end Go.Wz

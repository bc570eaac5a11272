import Derived.Test.YtmfkidinmcmaaaaGreatK26
import Derived.KernelRfl
import Derived.Test.YtmfkidinmcmaaaaGreatProg
set_option linter.unusedVariables false
set_option maxRecDepth 8000
namespace Go.Proofs
open Go.AM
attribute [local irreducible] loadK storeK hNil binK hUn hConv hFieldAddr hField hIndexAddr hIndex hExtract hAlloc hBox hMakeMap hMakeFunc hMakeSlice lenK capK hAppend hCopy hMin hMax hSlice hBuild hBuildSlice hLookup hMapUpdate hClear hNT hIs hL0 hLc hFn optK hPick hIf hG hRet appendK copyK gAdd gSub gMul gLss gLeq gGtr gGeq gEql gNeq gShl gShr gAnd gOr gXor gQuo gRem gConv gNot fLoad1 fLoadA fStore1 fFieldAddr fIndexAddr fLen
/-! 8 -/
noncomputable def H8g4 (k : KV) (v3 : Value) (o5 : Option Value) : F0 := fun h n=>hPick v3 (some (.bool true)) o5 fun v6=>hIf v6 (fun _=>k (.slice none 0 0) h n) (fun _=>false)
noncomputable def H8 (a1 a2 : Value) : HF := fun h n k=>gLss a2 (I 1) fun v3=>hG (some v3) false (fun _=>H6 a1 h n fun v7 h8 n9=>gGtr a2 v7 fun v10=>H8g4 k v3 (some v10) h8 n9) (fun _=>H8g4 k v3 none h n)
theorem sim8 {a1 a2 h n k} (H : H8 a1 a2 h n k = true) : SimR p 8 [a1, a2] h n k := by
 refine fn_rule Tryz.func8 rfl rfl ?_;refine cSR ?_;refine oAs rfl ?_;refine zO ?_;refine cS ?_;refine cSR ?_;refine oMv rfl ?_;refine oLss H fun v3 H=>?_;refine oMv rfl ?_;refine OJ.cut (X := Option Value × Unit) 4 (fun x h n=>H8g4 k v3 x.1 h n) (fun x=>[(11, x.1), (7, (some v3))]) (fun ⟨o5, _⟩ h n H=>?_) fun next=>?_
 · refine oPk H fun v6 H=>?_;refine zO ?_;refine cI rfl H (fun H=>?_) fun H=>?_
   · refine cSR ?_;refine oAs rfl ?_;refine zO ?_;refine zT ?_;exact rR rfl rfl H
   · cases H
 · rcases hG_true H with ⟨g, H⟩ | ⟨g, H⟩
   · refine oMv rfl ?_ (hg := gi rfl rfl g);refine oMv rfl ?_ (hg := gi rfl rfl g);refine oCa Tryz.call6 (sim6 H) (fun v7 h8 n9 H=>?_) (hg := gi rfl rfl g);refine oGtr H (fun v10 H=>?_) (hg := gi rfl rfl g);exact jG (next ((some v10), ()) _ _ H) rfl
   · refine gn rfl rfl rfl g ?_;refine gn rfl rfl rfl g ?_;refine gn rfl rfl rfl g ?_;refine gn rfl rfl rfl g ?_;exact jG (next (none, ()) _ _ H) rfl

/-! 3 -/
noncomputable def H3g39 (k : KV) (i5 : F2) (a10 : Value) (a11 : Value) (v38 : Value) (o40 : Option Value) : F0 := fun h n=>hPick v38 (some (.bool true)) o40 fun v41=>hIf v41 (fun _=>false) (fun _=>gAdd a11 (I 1) fun v42=>i5 a10 v42 h n)
noncomputable def H3g36 (k : KV) (i5 : F2) (a10 : Value) (a11 : Value) (a12 : Value) (v35 : Value) (o37 : Option Value) : F0 := fun h n=>hPick v35 (some (.bool true)) o37 fun v38=>hG (some v38) false (fun _=>H13 a12 h n fun v43 h44 n45=>gNot v43 fun v46=>H3g39 k i5 a10 a11 v38 (some v46) h44 n45) (fun _=>H3g39 k i5 a10 a11 v38 none h n)
noncomputable def H3g33 (k : KV) (i5 : F2) (a10 : Value) (a11 : Value) (a12 : Value) (v32 : Value) (o34 : Option Value) : F0 := fun h n=>hPick v32 (some (.bool true)) o34 fun v35=>hG (some v35) false (fun _=>H12 a12 h n fun v47 h48 n49=>gNeq v47 (I 0) fun v50=>H3g36 k i5 a10 a11 a12 v35 (some v50) h48 n49) (fun _=>H3g36 k i5 a10 a11 a12 v35 none h n)
noncomputable def H3g30 (k : KV) (i5 : F2) (a10 : Value) (a11 : Value) (a12 : Value) (v29 : Value) (o31 : Option Value) : F0 := fun h n=>hPick v29 (some (.bool true)) o31 fun v32=>hG (some v32) false (fun _=>H11 a12 h n fun v51 h52 n53=>fLen v51 fun v54=>gNeq v54 (I 0) fun v55=>H3g33 k i5 a10 a11 a12 v32 (some v55) h52 n53) (fun _=>H3g33 k i5 a10 a11 a12 v32 none h n)
noncomputable def H3g27 (k : KV) (i5 : F2) (a10 : Value) (a11 : Value) (a12 : Value) (v26 : Value) (o28 : Option Value) : F0 := fun h n=>hPick v26 (some (.bool true)) o28 fun v29=>hG (some v29) false (fun _=>H10 a12 h n fun v56 h57 n58=>hField p 29 v56 0 fun v59=>fLen v59 fun v60=>gNeq v60 (I 0) fun v61=>H3g30 k i5 a10 a11 a12 v29 (some v61) h57 n58) (fun _=>H3g30 k i5 a10 a11 a12 v29 none h n)
noncomputable def H3g24 (k : KV) (i5 : F2) (a10 : Value) (a11 : Value) (a12 : Value) (v23 : Value) (o25 : Option Value) : F0 := fun h n=>hPick v23 (some (.bool true)) o25 fun v26=>hG (some v26) false (fun _=>fFieldAddr 1 a10 fun v62=>fLoad1 v62 h fun v63=>H9 a12 v63 h n fun v64 h65 n66=>fLen v64 fun v67=>gNeq v67 (I 0) fun v68=>H3g27 k i5 a10 a11 a12 v26 (some v68) h65 n66) (fun _=>H3g27 k i5 a10 a11 a12 v26 none h n)
noncomputable def H3g21 (k : KV) (i5 : F2) (a10 : Value) (a11 : Value) (a12 : Value) (v20 : Value) (o22 : Option Value) : F0 := fun h n=>hPick v20 (some (.bool true)) o22 fun v23=>hG (some v23) false (fun _=>fFieldAddr 1 a10 fun v69=>fLoad1 v69 h fun v70=>H8 a12 v70 h n fun v71 h72 n73=>fLen v71 fun v74=>gNeq v74 (I 0) fun v75=>H3g24 k i5 a10 a11 a12 v23 (some v75) h72 n73) (fun _=>H3g24 k i5 a10 a11 a12 v23 none h n)
noncomputable def H3g18 (k : KV) (i5 : F2) (a10 : Value) (a11 : Value) (a12 : Value) (v17 : Value) (o19 : Option Value) : F0 := fun h n=>hPick v17 (some (.bool true)) o19 fun v20=>hG (some v20) false (fun _=>fFieldAddr 1 a10 fun v76=>fLoad1 v76 h fun v77=>H7 a12 v77 h n fun v78 h79 n80=>hField p 43 v78 0 fun v81=>gNeq v81 (I 0) fun v82=>H3g21 k i5 a10 a11 a12 v20 (some v82) h79 n80) (fun _=>H3g21 k i5 a10 a11 a12 v20 none h n)
noncomputable def H3j9 (k : KV) (i5 : F2) (a10 a11 a12 : Value) : F0 := fun h n=>fLoadA 5 a10 h fun v13=>H5 a12 v13 h n fun v14 h15 n16=>gNeq v14 (I 1) fun v17=>hG (some v17) false (fun _=>H6 a12 h15 n16 fun v83 h84 n85=>gNeq v83 (I 0) fun v86=>H3g18 k i5 a10 a11 a12 v17 (some v86) h84 n85) (fun _=>H3g18 k i5 a10 a11 a12 v17 none h15 n16)
noncomputable def H3l5 (k : KV) (n : Nat) : F2 := Nat.rec (motive := fun _=>F2) (fun _ _ _ _=>false) (fun _ i5 a6 a7 h n=>gLss a7 (I 2) fun v8=>hIf v8 (fun _=>gEql a7 (I 1) fun v87=>hIf v87 (fun _=>hBuild p 31 [] fun v88=>hBox v88 h n fun v89 h90 n91=>H3j9 k i5 a6 a7 v89 h90 n91) (fun _=>H3j9 k i5 a6 a7 (.pointer none) h n)) (fun _=>HA14 h n fun v92 h93 n94=>k v92 h93 n94)) n
noncomputable def H3 (a1 : Value) : HF := fun h n k=>hBox a1 h n fun v2 h3 n4=>H3l5 k 200000 v2 (I 0) h3 n4
theorem sim3 {a1 h n k} (H : H3 a1 h n k = true) : SimR p 3 [a1] h n k := by
 refine fn_rule Tryz.func3 rfl rfl ?_;refine cSR ?_;refine oBx H fun v2 h3 n4 H=>?_;refine oAs rfl ?_;refine zO ?_;refine cS ?_;refine cSR ?_;refine oAs rfl ?_;refine zO ?_;refine cB ?_;refine cW (fun n=>u2 (H3l5 k n)) (t2 1 3) 200000 (v2, (I 0), ()) rfl (fun _ _ _=>rfl) H fun i5n i5p ⟨a6, a7, _⟩ h n H=>?_;let i5 := H3l5 k i5n;refine cS ?_;refine cSR ?_;refine oMv rfl ?_;refine oLss H fun v8 H=>?_;refine zO ?_;refine cI rfl H (fun H=>?_) fun H=>?_
 · refine zS ?_;refine cS ?_;refine cB ?_;refine cSR ?_;refine oAs rfl ?_;refine zO ?_;refine cC (u3 (H3j9 k i5)) (t3 1 3 4) ?_ fun ⟨a10, a11, a12, _⟩ h n H=>?_
   · refine cSR ?_;refine oMv rfl ?_;refine oEql H fun v87 H=>?_;refine zO ?_;refine cI rfl H (fun H=>?_) fun H=>?_
     · refine cR ?_;refine oBd H fun v88 H=>?_;refine oBx H fun v89 h90 n91 H=>?_;refine oAs rfl ?_;exact jO ⟨(a6, a7, v89, ()), rfl, H⟩ rfl
     · exact jS ⟨(a6, a7, (.pointer none), ()), rfl, H⟩ rfl
   · refine cSR ?_;refine oMv rfl ?_;refine oLA ag23 sz23 H fun v13 H=>?_;refine oCa Tryz.call5 (sim5 H) fun v14 h15 n16 H=>?_;refine oNeq H fun v17 H=>?_;refine oMv rfl ?_;refine OJ.cut (X := Option Value × Unit) 3 (fun x h n=>H3g18 k i5 a10 a11 a12 v17 x.1 h n) (fun x=>[(20, x.1), (1, (some a10)), (3, (some a11)), (4, (some a12)), (17, (some v17))]) (fun ⟨o19, _⟩ h n H=>?_) fun next=>?_
     · refine oPk H fun v20 H=>?_;refine oMv rfl ?_;refine OJ.cut (X := Option Value × Unit) 6 (fun x h n=>H3g21 k i5 a10 a11 a12 v20 x.1 h n) (fun x=>[(28, x.1), (1, (some a10)), (3, (some a11)), (4, (some a12)), (22, (some v20))]) (fun ⟨o22, _⟩ h n H=>?_) fun next=>?_
       · refine oPk H fun v23 H=>?_;refine oMv rfl ?_;refine OJ.cut (X := Option Value × Unit) 6 (fun x h n=>H3g24 k i5 a10 a11 a12 v23 x.1 h n) (fun x=>[(36, x.1), (1, (some a10)), (3, (some a11)), (4, (some a12)), (30, (some v23))]) (fun ⟨o25, _⟩ h n H=>?_) fun next=>?_
         · refine oPk H fun v26 H=>?_;refine oMv rfl ?_;refine OJ.cut (X := Option Value × Unit) 6 (fun x h n=>H3g27 k i5 a10 a11 a12 v26 x.1 h n) (fun x=>[(44, x.1), (1, (some a10)), (3, (some a11)), (4, (some a12)), (38, (some v26))]) (fun ⟨o28, _⟩ h n H=>?_) fun next=>?_
           · refine oPk H fun v29 H=>?_;refine oMv rfl ?_;refine OJ.cut (X := Option Value × Unit) 5 (fun x h n=>H3g30 k i5 a10 a11 a12 v29 x.1 h n) (fun x=>[(51, x.1), (1, (some a10)), (3, (some a11)), (4, (some a12)), (46, (some v29))]) (fun ⟨o31, _⟩ h n H=>?_) fun next=>?_
             · refine oPk H fun v32 H=>?_;refine oMv rfl ?_;refine OJ.cut (X := Option Value × Unit) 4 (fun x h n=>H3g33 k i5 a10 a11 a12 v32 x.1 h n) (fun x=>[(57, x.1), (1, (some a10)), (3, (some a11)), (4, (some a12)), (53, (some v32))]) (fun ⟨o34, _⟩ h n H=>?_) fun next=>?_
               · refine oPk H fun v35 H=>?_;refine oMv rfl ?_;refine OJ.cut (X := Option Value × Unit) 3 (fun x h n=>H3g36 k i5 a10 a11 a12 v35 x.1 h n) (fun x=>[(62, x.1), (1, (some a10)), (3, (some a11)), (4, (some a12)), (59, (some v35))]) (fun ⟨o37, _⟩ h n H=>?_) fun next=>?_
                 · refine oPk H fun v38 H=>?_;refine oMv rfl ?_;refine OJ.cut (X := Option Value × Unit) 3 (fun x h n=>H3g39 k i5 a10 a11 v38 x.1 h n) (fun x=>[(67, x.1), (1, (some a10)), (3, (some a11)), (64, (some v38))]) (fun ⟨o40, _⟩ h n H=>?_) fun next=>?_
                   · refine oPk H fun v41 H=>?_;refine zO ?_;refine cI rfl H (fun H=>?_) fun H=>?_
                     · cases H
                     · refine zS ?_;refine cR ?_;refine oMv rfl ?_;refine oAdd H fun v42 H=>?_;refine oAs rfl ?_;exact jO (i5p (a10, v42, ()) _ _ H) rfl
                   · rcases hG_true H with ⟨g, H⟩ | ⟨g, H⟩
                     · refine oMv rfl ?_ (hg := gi rfl rfl g);refine oCa Tryz.call13 (sim13 H) (fun v43 h44 n45 H=>?_) (hg := gi rfl rfl g);refine oNot H (fun v46 H=>?_) (hg := gi rfl rfl g);exact jG (next ((some v46), ()) _ _ H) rfl
                     · refine gn rfl rfl rfl g ?_;refine gn rfl rfl rfl g ?_;refine gn rfl rfl rfl g ?_;exact jG (next (none, ()) _ _ H) rfl
                 · rcases hG_true H with ⟨g, H⟩ | ⟨g, H⟩
                   · refine oMv rfl ?_ (hg := gi rfl rfl g);refine oCa Tryz.call12 (sim12 H) (fun v47 h48 n49 H=>?_) (hg := gi rfl rfl g);refine oNeq H (fun v50 H=>?_) (hg := gi rfl rfl g);exact jG (next ((some v50), ()) _ _ H) rfl
                   · refine gn rfl rfl rfl g ?_;refine gn rfl rfl rfl g ?_;refine gn rfl rfl rfl g ?_;exact jG (next (none, ()) _ _ H) rfl
               · rcases hG_true H with ⟨g, H⟩ | ⟨g, H⟩
                 · refine oMv rfl ?_ (hg := gi rfl rfl g);refine oCa Tryz.call11 (sim11 H) (fun v51 h52 n53 H=>?_) (hg := gi rfl rfl g);refine oLn Tryz.underlying50 H (fun v54 H=>?_) (hg := gi rfl rfl g);refine oNeq H (fun v55 H=>?_) (hg := gi rfl rfl g);exact jG (next ((some v55), ()) _ _ H) rfl
                 · refine gn rfl rfl rfl g ?_;refine gn rfl rfl rfl g ?_;refine gn rfl rfl rfl g ?_;refine gn rfl rfl rfl g ?_;exact jG (next (none, ()) _ _ H) rfl
             · rcases hG_true H with ⟨g, H⟩ | ⟨g, H⟩
               · refine oMv rfl ?_ (hg := gi rfl rfl g);refine oCa Tryz.call10 (sim10 H) (fun v56 h57 n58 H=>?_) (hg := gi rfl rfl g);refine oFd H (fun v59 H=>?_) (hg := gi rfl rfl g);refine oLn Tryz.underlying26 H (fun v60 H=>?_) (hg := gi rfl rfl g);refine oNeq H (fun v61 H=>?_) (hg := gi rfl rfl g);exact jG (next ((some v61), ()) _ _ H) rfl
               · refine gn rfl rfl rfl g ?_;refine gn rfl rfl rfl g ?_;refine gn rfl rfl rfl g ?_;refine gn rfl rfl rfl g ?_;refine gn rfl rfl rfl g ?_;exact jG (next (none, ()) _ _ H) rfl
           · rcases hG_true H with ⟨g, H⟩ | ⟨g, H⟩
             · refine oMv rfl ?_ (hg := gi rfl rfl g);refine oFA fd23_1 sz3 H (fun v62 H=>?_) (hg := gi rfl rfl g);refine oL1 ag3 sz3 H (fun v63 H=>?_) (hg := gi rfl rfl g);refine oCa Tryz.call9 (sim9 H) (fun v64 h65 n66 H=>?_) (hg := gi rfl rfl g);refine oLn Tryz.underlying47 H (fun v67 H=>?_) (hg := gi rfl rfl g);refine oNeq H (fun v68 H=>?_) (hg := gi rfl rfl g);exact jG (next ((some v68), ()) _ _ H) rfl
             · refine gn rfl rfl rfl g ?_;refine gn rfl rfl rfl g ?_;refine gn rfl rfl rfl g ?_;refine gn rfl rfl rfl g ?_;refine gn rfl rfl rfl g ?_;refine gn rfl rfl rfl g ?_;exact jG (next (none, ()) _ _ H) rfl
         · rcases hG_true H with ⟨g, H⟩ | ⟨g, H⟩
           · refine oMv rfl ?_ (hg := gi rfl rfl g);refine oFA fd23_1 sz3 H (fun v69 H=>?_) (hg := gi rfl rfl g);refine oL1 ag3 sz3 H (fun v70 H=>?_) (hg := gi rfl rfl g);refine oCa Tryz.call8 (sim8 H) (fun v71 h72 n73 H=>?_) (hg := gi rfl rfl g);refine oLn Tryz.underlying45 H (fun v74 H=>?_) (hg := gi rfl rfl g);refine oNeq H (fun v75 H=>?_) (hg := gi rfl rfl g);exact jG (next ((some v75), ()) _ _ H) rfl
           · refine gn rfl rfl rfl g ?_;refine gn rfl rfl rfl g ?_;refine gn rfl rfl rfl g ?_;refine gn rfl rfl rfl g ?_;refine gn rfl rfl rfl g ?_;refine gn rfl rfl rfl g ?_;exact jG (next (none, ()) _ _ H) rfl
       · rcases hG_true H with ⟨g, H⟩ | ⟨g, H⟩
         · refine oMv rfl ?_ (hg := gi rfl rfl g);refine oFA fd23_1 sz3 H (fun v76 H=>?_) (hg := gi rfl rfl g);refine oL1 ag3 sz3 H (fun v77 H=>?_) (hg := gi rfl rfl g);refine oCa Tryz.call7 (sim7 H) (fun v78 h79 n80 H=>?_) (hg := gi rfl rfl g);refine oFd H (fun v81 H=>?_) (hg := gi rfl rfl g);refine oNeq H (fun v82 H=>?_) (hg := gi rfl rfl g);exact jG (next ((some v82), ()) _ _ H) rfl
         · refine gn rfl rfl rfl g ?_;refine gn rfl rfl rfl g ?_;refine gn rfl rfl rfl g ?_;refine gn rfl rfl rfl g ?_;refine gn rfl rfl rfl g ?_;refine gn rfl rfl rfl g ?_;exact jG (next (none, ()) _ _ H) rfl
     · rcases hG_true H with ⟨g, H⟩ | ⟨g, H⟩
       · refine oMv rfl ?_ (hg := gi rfl rfl g);refine oCa Tryz.call6 (sim6 H) (fun v83 h84 n85 H=>?_) (hg := gi rfl rfl g);refine oNeq H (fun v86 H=>?_) (hg := gi rfl rfl g);exact jG (next ((some v86), ()) _ _ H) rfl
       · refine gn rfl rfl rfl g ?_;refine gn rfl rfl rfl g ?_;refine gn rfl rfl rfl g ?_;exact jG (next (none, ()) _ _ H) rfl
 · refine zE ?_;refine cSR ?_;refine oCa Tryz.call14 (simA14 H) fun v92 h93 n94 H=>?_;refine oAs rfl ?_;refine zO ?_;refine zT ?_;exact rR rfl rfl H
end Go.Proofs

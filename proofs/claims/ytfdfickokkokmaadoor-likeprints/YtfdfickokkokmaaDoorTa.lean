/- Texts of functions between cutting points, printed by a program of ours. -/
import Derived.Test.YtfdfickokkokmaaDoorE
set_option linter.unusedSimpArgs false
set_option linter.unusedVariables false
namespace Go.Proofs.YtfdfickokkokmaaDoor
open Go Go.D

/- 3: lampblack/lampblacklaw09.LikePrints -/
theorem x3 (m0 m : Mem) (a0 : Value) {r : DEnd × Mem} (h : (
newC m (Array.toList (Value.cells a0)) 24 fun v0 m1 =>
(ldn m1 4 v0).bind fun v2 =>
endC (run Pg E 6 [v2] m1) (fun v3 m4 =>
(extL v3 0).bind fun v5 =>
(extL v3 1).bind fun v6 =>
newC m4 [(Value.string ⟨#[]⟩), (Value.int .i64 0), (Value.int .i64 0), (Value.slice none 0 0)] 27 fun v7 m8 =>
newC m8 [(Value.string ⟨#[]⟩), (Value.int .i64 0), (Value.int .i64 0), (Value.slice none 0 0)] 24 fun v9 m10 =>
(stn m10 4 v7 v5).bind fun m11 =>
(stn m11 4 v9 v6).bind fun m12 =>
(ldn m12 4 v7).bind fun v13 =>
endC (run Pg E 7 [v13] m12) (fun v14 m15 =>
(extL v14 0).bind fun v16 =>
(extL v14 1).bind fun v17 =>
(ldn m15 4 v7).bind fun v18 =>
endC (run Pg E 8 [v18] m15) (fun v19 m20 =>
(extL v19 0).bind fun v21 =>
(extL v19 1).bind fun v22 =>
(ldn m20 4 v9).bind fun v23 =>
endC (run Pg E 9 [v23] m20) (fun v24 m25 =>
(notL v24).bind fun v26 =>
condL v26 (
(strL .eql v16 (Value.string ⟨#[]⟩)).bind fun v27 =>
bindR (bif saidL v27 true then some (R.val v21, m25) else some (R.val undef, m25)) (fun v28 m29 =>
bindR (bif saidL v27 true then (intL .eql v28 (Value.int .i64 0)).bind fun v30 =>
some (R.val v30, m29) else some (R.val undef, m29)) (fun v31 m32 =>
(pickL v27 v31 (Value.bool false)).bind fun v33 =>
bindR (bif saidL v33 true then some (R.val v17, m32) else some (R.val undef, m32)) (fun v34 m35 =>
bindR (bif saidL v33 true then (intL .eql v34 (Value.int .i64 2)).bind fun v36 =>
some (R.val v36, m35) else some (R.val undef, m35)) (fun v37 m38 =>
(pickL v33 v37 (Value.bool false)).bind fun v39 =>
bindR (bif saidL v39 true then some (R.val v22, m38) else some (R.val undef, m38)) (fun v40 m41 =>
bindR (bif saidL v39 true then (intL .eql v40 (Value.int .i64 2)).bind fun v42 =>
some (R.val v42, m41) else some (R.val undef, m41)) (fun v43 m44 =>
(pickL v39 v43 (Value.bool false)).bind fun v45 =>
bindR (bif saidL v45 true then endC (run Pg E 10 [] m44) (fun v46 m47 =>
some (R.val v46, m47)) (fun v m => some (R.pan v, m)) else some (R.val undef, m44)) (fun v48 m49 =>
(pickL v45 v48 (Value.bool false)).bind fun v50 =>
retL m0 v50 m49) (panL m0)) (panL m0)) (panL m0)) (panL m0)) (panL m0)) (panL m0)) (panL m0)) (
(ldn m25 4 v9).bind fun v51 =>
endC (run Pg E 11 [v51] m25) (fun v52 m53 =>
(strL .eql v16 v52).bind fun v54 =>
bindR (bif saidL v54 true then some (R.val v17, m53) else some (R.val undef, m53)) (fun v55 m56 =>
bindR (bif saidL v54 true then (intL .eql v55 (Value.int .i64 0)).bind fun v57 =>
some (R.val v57, m56) else some (R.val undef, m56)) (fun v58 m59 =>
(pickL v54 v58 (Value.bool false)).bind fun v60 =>
bindR (bif saidL v60 true then some (R.val v21, m59) else some (R.val undef, m59)) (fun v61 m62 =>
bindR (bif saidL v60 true then (ldn m62 4 v9).bind fun v63 =>
some (R.val v63, m62) else some (R.val undef, m62)) (fun v64 m65 =>
bindR (bif saidL v60 true then endC (run Pg E 12 [v64] m65) (fun v66 m67 =>
some (R.val v66, m67)) (fun v m => some (R.pan v, m)) else some (R.val undef, m65)) (fun v68 m69 =>
bindR (bif saidL v60 true then (intL .eql v61 v68).bind fun v70 =>
some (R.val v70, m69) else some (R.val undef, m69)) (fun v71 m72 =>
(pickL v60 v71 (Value.bool false)).bind fun v73 =>
bindR (bif saidL v73 true then some (R.val v22, m72) else some (R.val undef, m72)) (fun v74 m75 =>
bindR (bif saidL v73 true then (intL .eql v74 (Value.int .i64 0)).bind fun v76 =>
some (R.val v76, m75) else some (R.val undef, m75)) (fun v77 m78 =>
(pickL v73 v77 (Value.bool false)).bind fun v79 =>
bindR (bif saidL v79 true then endC (run Pg E 10 [] m78) (fun v80 m81 =>
some (R.val v80, m81)) (fun v m => some (R.pan v, m)) else some (R.val undef, m78)) (fun v82 m83 =>
(pickL v79 v82 (Value.bool false)).bind fun v84 =>
retL m0 v84 m83) (panL m0)) (panL m0)) (panL m0)) (panL m0)) (panL m0)) (panL m0)) (panL m0)) (panL m0)) (panL m0)) (panL m0))) (panL m0)) (panL m0)) (panL m0)) (panL m0)) = some r) : G Pg E 3 [] m0 (rho0 [a0]) m = some r := G_of 400 Tryd.func3 rfl (by kernel_rfl) h


/- 6: lampblack/lampblacklaw09.Of -/
theorem x6 (m0 m : Mem) (a0 : Value) {r : DEnd × Mem} (h : (
newC m (Array.toList (Value.cells a0)) 24 fun v0 m1 =>
newC m1 [(Value.string ⟨#[]⟩), (Value.int .i64 0), (Value.int .i64 0), (Value.slice none 0 0)] 27 fun v2 m3 =>
newC m3 [(Value.string ⟨#[]⟩), (Value.int .i64 0), (Value.int .i64 0), (Value.slice none 0 0)] 24 fun v4 m5 =>
newC m5 [(Value.int .i64 0)] 3 fun v6 m7 =>
(stn m7 1 v6 (Value.int .i64 2010)).bind fun m8 =>
(ldn m8 4 v0).bind fun v9 =>
endC (run Pg E 23 [v9, (Value.int .i64 43), v6] m8) (fun v10 m11 =>
(extL v10 0).bind fun v12 =>
(extL v10 1).bind fun v13 =>
(stn m11 4 v2 v12).bind fun m14 =>
(stn m14 4 v4 v13).bind fun m15 =>
finW Pg m0 [ResultVar.cell 2 27, ResultVar.cell 3 24] DX.ret (Rho.put (Rho.put (Rho.put (Rho.put (Rho.put (Rho.put (Rho.put (Rho.put (rho0 [a0]) (some 1) v0) (some 2) v2) (some 3) v4) (some 4) v6) (some 5) v9) (some 6) v10) (some 7) v12) (some 8) v13) m15) (panL m0)) = some r) : G Pg E 6 [] m0 (rho0 [a0]) m = some r := G_of 400 Tryd.func6 rfl (by kernel_rfl) h


/- 23: lampblack/lampblacklaw09.converted -/
theorem x23 (m0 m : Mem) (a0 a1 a2 : Value) {r : DEnd × Mem} (h : (
newC m (Array.toList (Value.cells a0)) 24 fun v0 m1 =>
newC m1 [(Value.string ⟨#[]⟩), (Value.int .i64 0), (Value.int .i64 0), (Value.slice none 0 0)] 27 fun v2 m3 =>
newC m3 [(Value.string ⟨#[]⟩), (Value.int .i64 0), (Value.int .i64 0), (Value.slice none 0 0)] 24 fun v4 m5 =>
(isPtr a2).bind fun v6 =>
(ld m5 v6).bind fun v7 =>
(intL .sub v7 (Value.int .i64 1)).bind fun v8 =>
(isPtr a2).bind fun v9 =>
(stn m5 1 v9 v8).bind fun m10 =>
(fld v0 0).bind fun v11 =>
(ld m10 v11).bind fun v12 =>
(fld v0 1).bind fun v13 =>
(ld m10 v13).bind fun v14 =>
(fld v0 2).bind fun v15 =>
(ld m10 v15).bind fun v16 =>
(bldS [(Value.string ⟨#[]⟩), (Value.int .i64 0), (Value.int .i64 0), (Value.slice none 0 0)] [(0, 1), (1, 1), (2, 1), (3, 1)] [(0, v12), (1, v14), (2, v16)]).bind fun v17 =>
(fld v0 0).bind fun v18 =>
(ld m10 v18).bind fun v19 =>
(fld v0 1).bind fun v20 =>
(ld m10 v20).bind fun v21 =>
(fld v0 2).bind fun v22 =>
(ld m10 v22).bind fun v23 =>
(bldS [(Value.string ⟨#[]⟩), (Value.int .i64 0), (Value.int .i64 0), (Value.slice none 0 0)] [(0, 1), (1, 1), (2, 1), (3, 1)] [(0, v19), (1, v21), (2, v23)]).bind fun v24 =>
newC m10 [(Value.string ⟨#[]⟩), (Value.int .i64 0), (Value.int .i64 0), (Value.slice none 0 0)] 27 fun v25 m26 =>
newC m26 [(Value.string ⟨#[]⟩), (Value.int .i64 0), (Value.int .i64 0), (Value.slice none 0 0)] 24 fun v27 m28 =>
(stn m28 4 v25 v17).bind fun m29 =>
(stn m29 4 v27 v24).bind fun m30 =>
bif !(Rec.clash (⟨(blockOf v18), FP.nil, m10.next, m10.next⟩ : Rec) (⟨.nil, (blockOf v25), m28.next, m29.next⟩ : Rec)) && (!(Rec.clash (⟨(blockOf v20), FP.nil, m10.next, m10.next⟩ : Rec) (⟨.nil, (blockOf v25), m28.next, m29.next⟩ : Rec)) && (!(Rec.clash (⟨(blockOf v22), FP.nil, m10.next, m10.next⟩ : Rec) (⟨.nil, (blockOf v25), m28.next, m29.next⟩ : Rec)) && (true))) then
(fld v0 3).bind fun v31 =>
(ld m30 v31).bind fun v32 =>
(lenSl v32).bind fun v33 =>
G Pg E 23 [1, 1, 1, 0, 1, 0] m0 (Rho.put (Rho.put (Rho.put (Rho.put (Rho.put (Rho.put (Rho.put (Rho.put (Rho.put (Rho.put (Rho.put (Rho.put (Rho.put (Rho.put (Rho.put (Rho.put (Rho.put (Rho.put (Rho.put (Rho.put (Rho.put (Rho.put (Rho.put (Rho.put (Rho.put (Rho.put (Rho.put (Rho.put (rho0 [a0, a1, a2]) (some 3) v0) (some 6) v2) (some 7) v4) (some 14) a2) (some 15) v6) (some 16) v7) (some 17) v8) (some 18) v9) (some 19) v11) (some 20) v12) (some 21) v13) (some 22) v14) (some 23) v15) (some 24) v16) (some 25) v17) (some 26) v18) (some 27) v19) (some 28) v20) (some 29) v21) (some 30) v22) (some 31) v23) (some 32) v24) (some 8) v25) (some 9) v27) (some 33) v31) (some 34) v32) (some 35) v33) (some 36) (Value.int .i64 0)) m30
else none) = some r) : G Pg E 23 [] m0 (rho0 [a0, a1, a2]) m = some r := G_of 400 Tryd.func23 rfl (by kernel_rfl) h

theorem x23_1_1_1_0_1_0 {m0 m : Mem} {ρ : Rho} {r : DEnd × Mem} (h : G Pg E 23 [1, 1, 1, 0, 1, 0, 0] m0 ρ m = some r) : G Pg E 23 [1, 1, 1, 0, 1, 0] m0 ρ m = some r := G_loop Tryd.func23 rfl rfl rfl h

theorem x23_1_1_1_0_1_0_0 (m0 m : Mem) (ρ : Rho) {r : DEnd × Mem} (h : (
(intL .lss (ρ 36) (ρ 35)).bind fun v0 =>
condL v0 (
(ixS 4 (ρ 34) (ρ 36)).bind fun v1 =>
(ldn m 4 v1).bind fun v2 =>
newC m [(Value.string ⟨#[]⟩), (Value.int .i64 0), (Value.int .i64 0), (Value.slice none 0 0)] 24 fun v3 m4 =>
(stn m4 4 v3 v2).bind fun m5 =>
(intL .lss (ρ 1) (Value.int .i64 1)).bind fun v6 =>
bindR (bif saidL v6 false then some (R.val (ρ 2), m5) else some (R.val undef, m5)) (fun v7 m8 =>
bindR (bif saidL v6 false then (isPtr v7).bind fun v9 =>
some (R.val v9, m8) else some (R.val undef, m8)) (fun v10 m11 =>
bindR (bif saidL v6 false then (ld m11 v10).bind fun v12 =>
some (R.val v12, m11) else some (R.val undef, m11)) (fun v13 m14 =>
bindR (bif saidL v6 false then (intL .lss v13 (Value.int .i64 1)).bind fun v15 =>
some (R.val v15, m14) else some (R.val undef, m14)) (fun v16 m17 =>
(pickL v6 (Value.bool true) v16).bind fun v18 =>
bindR (bif saidL v18 false then some (R.val (ρ 36), m17) else some (R.val undef, m17)) (fun v19 m20 =>
bindR (bif saidL v18 false then (intL .gtr v19 (Value.int .i64 3)).bind fun v21 =>
some (R.val v21, m20) else some (R.val undef, m20)) (fun v22 m23 =>
(pickL v18 (Value.bool true) v22).bind fun v24 =>
condL v24 (
G Pg E 23 [1, 1, 1, 1] m0 (Rho.put (Rho.put (Rho.put (Rho.put (Rho.put (Rho.put (Rho.put (Rho.put (Rho.put (Rho.put (Rho.put (Rho.put (Rho.put (Rho.put (Rho.put (Rho.put (Rho.put (Rho.put ρ (some 37) v0) (some 38) (ρ 36)) (some 39) v1) (some 40) v2) (some 11) v3) (some 10) (ρ 36)) (some 41) (ρ 1)) (some 42) v6) (some 43) v6) (some 44) v7) (some 45) v10) (some 46) v13) (some 47) v16) (some 48) v18) (some 49) v18) (some 50) v19) (some 51) v22) (some 52) v24) m23) (
(ldn m23 4 v3).bind fun v25 =>
(intL .sub (ρ 1) (Value.int .i64 1)).bind fun v26 =>
endC (run Pg E 23 [v25, v26, (ρ 2)] m23) (fun v27 m28 =>
(extL v27 0).bind fun v29 =>
(extL v27 1).bind fun v30 =>
newC m28 [(Value.string ⟨#[]⟩), (Value.int .i64 0), (Value.int .i64 0), (Value.slice none 0 0)] 27 fun v31 m32 =>
newC m32 [(Value.string ⟨#[]⟩), (Value.int .i64 0), (Value.int .i64 0), (Value.slice none 0 0)] 24 fun v33 m34 =>
(stn m34 4 v31 v29).bind fun m35 =>
(stn m35 4 v33 v30).bind fun m36 =>
(fld (ρ 8) 3).bind fun v37 =>
(ld m36 v37).bind fun v38 =>
(ldn m36 4 v31).bind fun v39 =>
(cellsA (repl 1 [(Value.string ⟨#[]⟩), (Value.int .i64 0), (Value.int .i64 0), (Value.slice none 0 0)]) 4 [(0, v39)]).bind fun c40 =>
newS m36 c40 27 1 fun v41 m42 =>
andV (appS m42 27 4 56 v38 v41) fun v43 m44 =>
(fld (ρ 9) 3).bind fun v45 =>
(ld m44 v45).bind fun v46 =>
(ldn m44 4 v33).bind fun v47 =>
(cellsA (repl 1 [(Value.string ⟨#[]⟩), (Value.int .i64 0), (Value.int .i64 0), (Value.slice none 0 0)]) 4 [(0, v47)]).bind fun c48 =>
newS m44 c48 24 1 fun v49 m50 =>
andV (appS m50 24 4 56 v46 v49) fun v51 m52 =>
(fld (ρ 8) 3).bind fun v53 =>
(stn m52 1 v53 v43).bind fun m54 =>
(fld (ρ 9) 3).bind fun v55 =>
(stn m54 1 v55 v51).bind fun m56 =>
bif !(Rec.clash (⟨.nil, .nil, m36.next, m42.next⟩ : Rec) (⟨(blockOf v45), FP.nil, m44.next, m44.next⟩ : Rec)) && (!(Rec.clash (⟨((blockOf v38).join (blockOf v41)), (blockOf v38), m42.next, m44.next⟩ : Rec) (⟨(blockOf v45), FP.nil, m44.next, m44.next⟩ : Rec)) && (!(Rec.clash (⟨.nil, .nil, m36.next, m42.next⟩ : Rec) (⟨(blockOf v33), FP.nil, m44.next, m44.next⟩ : Rec)) && (!(Rec.clash (⟨((blockOf v38).join (blockOf v41)), (blockOf v38), m42.next, m44.next⟩ : Rec) (⟨(blockOf v33), FP.nil, m44.next, m44.next⟩ : Rec)) && (true)))) then
(intL .add (ρ 36) (Value.int .i64 1)).bind fun v57 =>
G Pg E 23 [1, 1, 1, 0, 1, 0] m0 (Rho.put (Rho.put (Rho.put (Rho.put (Rho.put (Rho.put (Rho.put (Rho.put (Rho.put (Rho.put (Rho.put (Rho.put (Rho.put (Rho.put (Rho.put (Rho.put (Rho.put (Rho.put (Rho.put (Rho.put (Rho.put (Rho.put (Rho.put (Rho.put (Rho.put (Rho.put (Rho.put (Rho.put (Rho.put (Rho.put (Rho.put (Rho.put (Rho.put (Rho.put (Rho.put (Rho.put (Rho.put (Rho.put (Rho.put (Rho.put (Rho.put (Rho.put ρ (some 37) v0) (some 38) (ρ 36)) (some 39) v1) (some 40) v2) (some 11) v3) (some 10) (ρ 36)) (some 41) (ρ 1)) (some 42) v6) (some 43) v6) (some 44) v7) (some 45) v10) (some 46) v13) (some 47) v16) (some 48) v18) (some 49) v18) (some 50) v19) (some 51) v22) (some 52) v24) (some 54) v25) (some 55) (ρ 1)) (some 56) v26) (some 57) (ρ 2)) (some 58) v27) (some 53) v27) (some 59) v29) (some 60) v30) (some 12) v31) (some 13) v33) (some 61) v37) (some 62) v38) (some 63) v39) (some 64) v41) (some 65) v43) (some 66) v45) (some 67) v46) (some 68) v47) (some 69) v49) (some 70) v51) (some 71) v53) (some 72) v55) (some 73) v57) (some 36) v57) m56
else none) (panL m0))) (panL m0)) (panL m0)) (panL m0)) (panL m0)) (panL m0)) (panL m0)) (
G Pg E 23 [1, 1, 1, 1] m0 (Rho.put ρ (some 37) v0) m)) = some r) : G Pg E 23 [1, 1, 1, 0, 1, 0, 0] m0 ρ m = some r := G_of 400 Tryd.func23 rfl (by kernel_rfl) h

theorem x23_1_1_1_1 (m0 m : Mem) (ρ : Rho) {r : DEnd × Mem} (h : (
(ldn m 4 (ρ 8)).bind fun v0 =>
(ldn m 4 (ρ 9)).bind fun v1 =>
(stn m 4 (ρ 6) v0).bind fun m2 =>
(stn m2 4 (ρ 7) v1).bind fun m3 =>
bif !(Rec.clash (⟨(blockOf (ρ 9)), FP.nil, m.next, m.next⟩ : Rec) (⟨.nil, (blockOf (ρ 6)), m.next, m2.next⟩ : Rec)) && (true) then
finW Pg m0 [ResultVar.cell 6 27, ResultVar.cell 7 24] DX.ret (Rho.put (Rho.put ρ (some 74) v0) (some 75) v1) m3
else none) = some r) : G Pg E 23 [1, 1, 1, 1] m0 ρ m = some r := G_of 400 Tryd.func23 rfl (by kernel_rfl) h


/- 7: lampblack/like.Print -/
theorem x7 (m0 m : Mem) (a0 : Value) {r : DEnd × Mem} (h : (
newC m (Array.toList (Value.cells a0)) 27 fun v0 m1 =>
(ldn m1 4 v0).bind fun v2 =>
endC (run Pg E 24 [v2] m1) (fun v3 m4 =>
(notL v3).bind fun v5 =>
condL v5 (
retL m0 (Value.tuple #[(Value.string ⟨#[]⟩), (Value.int .i64 2)]) m4) (
(ldn m4 4 v0).bind fun v6 =>
endC (run Pg E 25 [v6] m4) (fun v7 m8 =>
retL m0 (Value.tuple #[v7, (Value.int .i64 0)]) m8) (panL m0))) (panL m0)) = some r) : G Pg E 7 [] m0 (rho0 [a0]) m = some r := G_of 400 Tryd.func7 rfl (by kernel_rfl) h


/- 24: (lampblack/like.Form).valid -/
theorem x24 (m0 m : Mem) (a0 : Value) {r : DEnd × Mem} (h : (
newC m (Array.toList (Value.cells a0)) 27 fun v0 m1 =>
(ldn m1 4 v0).bind fun v2 =>
endC (run Pg E 42 [v2, (Value.int .i64 2000), (Value.int .i64 40)] m1) (fun v3 m4 =>
(intL .geq v3 (Value.int .i64 0)).bind fun v5 =>
retL m0 v5 m4) (panL m0)) = some r) : G Pg E 24 [] m0 (rho0 [a0]) m = some r := G_of 400 Tryd.func24 rfl (by kernel_rfl) h


/- 42: (lampblack/like.Form).size -/
theorem x42 (m0 m : Mem) (a0 a1 a2 : Value) {r : DEnd × Mem} (h : (
newC m (Array.toList (Value.cells a0)) 27 fun v0 m1 =>
(fld v0 0).bind fun v2 =>
(ld m1 v2).bind fun v3 =>
endC (run Pg E 56 [v3] m1) (fun v4 m5 =>
(intL .eql v4 (Value.int .i64 0)).bind fun v6 =>
(intL .lss a1 (Value.int .i64 1)).bind fun v7 =>
then3 (bif saidL v7 false then some (a2, m5, r0) else some (undef, m5, r0)) fun v8 m9 _ =>
then3 (bif saidL v7 false then (intL .lss v8 (Value.int .i64 1)).bind fun v11 =>
some (v11, m9, r0) else some (undef, m9, r0)) fun v12 m13 _ =>
(pickL v7 (Value.bool true) v12).bind fun v15 =>
then3 (bif saidL v15 false then (fld v0 0).bind fun v16 =>
some (v16, m13, r0) else some (undef, m13, r0)) fun v17 m18 _ =>
then3 (bif saidL v15 false then (ld m18 v17).bind fun v20 =>
some (v20, m18, r0) else some (undef, m18, r0)) fun v21 m22 _ =>
then3 (bif saidL v15 false then quiet (run Pg E 56 [v21] m22.mark) m22 fun v24 =>
some (v24, m22, r0) else some (undef, m22, r0)) fun v25 m26 _ =>
then3 (bif saidL v15 false then (fld v0 3).bind fun v28 =>
some (v28, m26, r0) else some (undef, m26, r0)) fun v29 m30 _ =>
then3 (bif saidL v15 false then (ld m30 v29).bind fun v32 =>
some (v32, m30, r0) else some (undef, m30, r0)) fun v33 m34 _ =>
then3 (bif saidL v15 false then (lenSl v33).bind fun v36 =>
some (v36, m34, r0) else some (undef, m34, r0)) fun v37 m38 _ =>
then3 (bif saidL v15 false then (intL .neq v25 v37).bind fun v40 =>
some (v40, m38, r0) else some (undef, m38, r0)) fun v41 m42 _ =>
(pickL v15 (Value.bool true) v41).bind fun v44 =>
then3 (bif saidL v44 false then some ((Value.func (.func 55) #[] #[]), m42, r0) else some (undef, m42, r0)) fun v45 m46 _ =>
then3 (bif saidL v44 false then (fld v0 1).bind fun v48 =>
some (v48, m46, r0) else some (undef, m46, r0)) fun v49 m50 _ =>
then3 (bif saidL v44 false then (ld m50 v49).bind fun v52 =>
some (v52, m50, r0) else some (undef, m50, r0)) fun v53 m54 _ =>
then3 (bif saidL v44 false then some (v6, m54, r0) else some (undef, m54, r0)) fun v56 m57 _ =>
then3 (bif saidL v44 false then some (v56, m57, r0) else some (undef, m57, r0)) fun v59 m60 _ =>
then3 (bif saidL v59 false then (fld v0 0).bind fun v62 =>
some (v62, m60, r0) else some (undef, m60, r0)) fun v63 m64 _ =>
then3 (bif saidL v59 false then (ld m64 v63).bind fun v66 =>
some (v66, m64, r0) else some (undef, m64, r0)) fun v67 m68 _ =>
then3 (bif saidL v59 false then (strL .eql v67 (Value.string ⟨#[69]⟩)).bind fun v70 =>
some (v70, m68, r0) else some (undef, m68, r0)) fun v71 m72 _ =>
then3 (bif saidL v44 false then (pickL v59 (Value.bool true) v71).bind fun v74 =>
some (v74, m72, r0) else some (undef, m72, r0)) fun v75 m76 _ =>
then3 (bif saidL v44 false then callQ E (run Pg E) false m76 v45 [v53, v75] fun v78 m79 _ =>
some (v78, m79, r0) else some (undef, m76, r0)) fun v81 m82 _ =>
then3 (bif saidL v44 false then (notL v81).bind fun v84 =>
some (v84, m82, r0) else some (undef, m82, r0)) fun v85 m86 _ =>
(pickL v44 (Value.bool true) v85).bind fun v88 =>
then3 (bif saidL v88 false then some ((Value.func (.func 55) #[] #[]), m86, r0) else some (undef, m86, r0)) fun v89 m90 _ =>
then3 (bif saidL v88 false then (fld v0 2).bind fun v92 =>
some (v92, m90, r0) else some (undef, m90, r0)) fun v93 m94 _ =>
then3 (bif saidL v88 false then (ld m94 v93).bind fun v96 =>
some (v96, m94, r0) else some (undef, m94, r0)) fun v97 m98 _ =>
then3 (bif saidL v88 false then some (v6, m98, r0) else some (undef, m98, r0)) fun v100 m101 _ =>
then3 (bif saidL v88 false then callQ E (run Pg E) false m101 v89 [v97, v100] fun v103 m104 _ =>
some (v103, m104, r0) else some (undef, m101, r0)) fun v106 m107 _ =>
then3 (bif saidL v88 false then (notL v106).bind fun v109 =>
some (v109, m107, r0) else some (undef, m107, r0)) fun v110 m111 _ =>
(pickL v88 (Value.bool true) v110).bind fun v113 =>
condL v113 (
retL m0 (Value.int .i64 (-1)) m111) (
(intL .sub a1 (Value.int .i64 1)).bind fun v114 =>
(fld v0 3).bind fun v115 =>
(ld m111 v115).bind fun v116 =>
(lenSl v116).bind fun v117 =>
G Pg E 42 [1, 1, 1, 1, 1, 0, 1, 0] m0 (Rho.put (Rho.put (Rho.put (Rho.put (Rho.put (Rho.put (Rho.put (Rho.put (Rho.put (Rho.put (Rho.put (Rho.put (Rho.put (Rho.put (Rho.put (Rho.put (Rho.put (Rho.put (Rho.put (Rho.put (Rho.put (Rho.put (Rho.put (Rho.put (Rho.put (Rho.put (Rho.put (Rho.put (Rho.put (Rho.put (Rho.put (Rho.put (Rho.put (Rho.put (Rho.put (Rho.put (Rho.put (Rho.put (Rho.put (Rho.put (Rho.put (Rho.put (Rho.put (Rho.put (Rho.put (Rho.put (Rho.put (Rho.put (Rho.put (Rho.put (Rho.put (rho0 [a0, a1, a2]) (some 3) v0) (some 6) (Value.int .i64 0)) (some 7) (Value.func (.func 55) #[] #[])) (some 11) v2) (some 12) v3) (some 13) v4) (some 14) v6) (some 8) v6) (some 15) a1) (some 16) v7) (some 17) v7) (some 18) v8) (some 19) v12) (some 20) v15) (some 21) v15) (some 22) v17) (some 23) v21) (some 24) v25) (some 25) v29) (some 26) v33) (some 27) v37) (some 28) v41) (some 29) v44) (some 30) v44) (some 31) v45) (some 32) v49) (some 33) v53) (some 34) v56) (some 35) v59) (some 36) v63) (some 37) v67) (some 38) v71) (some 39) v75) (some 40) v81) (some 41) v85) (some 42) v88) (some 43) v88) (some 44) v89) (some 45) v93) (some 46) v97) (some 47) v100) (some 48) v106) (some 49) v110) (some 50) v113) (some 51) a1) (some 52) v114) (some 1) v114) (some 53) v115) (some 54) v116) (some 55) v117) (some 56) (Value.int .i64 0)) m111)) (panL m0)) = some r) : G Pg E 42 [] m0 (rho0 [a0, a1, a2]) m = some r := G_of 400 Tryd.func42 rfl (by kernel_rfl) h

theorem x42_1_1_1_1_1_0_1_0 {m0 m : Mem} {ρ : Rho} {r : DEnd × Mem} (h : G Pg E 42 [1, 1, 1, 1, 1, 0, 1, 0, 0] m0 ρ m = some r) : G Pg E 42 [1, 1, 1, 1, 1, 0, 1, 0] m0 ρ m = some r := G_loop Tryd.func42 rfl rfl rfl h

theorem x42_1_1_1_1_1_0_1_0_0 (m0 m : Mem) (ρ : Rho) {r : DEnd × Mem} (h : (
(intL .lss (ρ 56) (ρ 55)).bind fun v0 =>
condL v0 (
(ixS 4 (ρ 54) (ρ 56)).bind fun v1 =>
(ldn m 4 v1).bind fun v2 =>
newC m [(Value.string ⟨#[]⟩), (Value.int .i64 0), (Value.int .i64 0), (Value.slice none 0 0)] 27 fun v3 m4 =>
(stn m4 4 v3 v2).bind fun m5 =>
(ldn m5 4 v3).bind fun v6 =>
(intL .sub (ρ 2) (Value.int .i64 1)).bind fun v7 =>
endC (run Pg E 42 [v6, (ρ 1), v7] m5) (fun v8 m9 =>
(intL .lss v8 (Value.int .i64 0)).bind fun v10 =>
condL v10 (
retL m0 (Value.int .i64 (-1)) m9) (
(intL .add (ρ 56) (Value.int .i64 1)).bind fun v11 =>
G Pg E 42 [1, 1, 1, 1, 1, 0, 1, 0] m0 (Rho.put (Rho.put (Rho.put (Rho.put (Rho.put (Rho.put (Rho.put (Rho.put (Rho.put (Rho.put (Rho.put (Rho.put (Rho.put (Rho.put ρ (some 57) v0) (some 58) v1) (some 59) v2) (some 10) v3) (some 60) v6) (some 61) (ρ 1)) (some 62) (ρ 2)) (some 63) v7) (some 64) v8) (some 1) v8) (some 65) v8) (some 66) v10) (some 67) v11) (some 56) v11) m9)) (panL m0)) (
retL m0 (ρ 1) m)) = some r) : G Pg E 42 [1, 1, 1, 1, 1, 0, 1, 0, 0] m0 ρ m = some r := G_of 400 Tryd.func42 rfl (by kernel_rfl) h


/- 55: (lampblack/like.Form).size$1 -/
theorem x55 (m0 m : Mem) (a0 a1 : Value) {r : DEnd × Mem} (h : (
(intL .geq a0 (Value.int .i64 0)).bind fun v0 =>
bindR (bif saidL v0 true then some (R.val a0, m) else some (R.val undef, m)) (fun v1 m2 =>
bindR (bif saidL v0 true then (intL .lss v1 (Value.int .i64 4)).bind fun v3 =>
some (R.val v3, m2) else some (R.val undef, m2)) (fun v4 m5 =>
(pickL v0 v4 (Value.bool false)).bind fun v6 =>
bindR (bif saidL v6 true then some (R.val a1, m5) else some (R.val undef, m5)) (fun v7 m8 =>
bindR (bif saidL v6 true then some (R.val v7, m8) else some (R.val undef, m8)) (fun v9 m10 =>
bindR (bif saidL v9 false then some (R.val a0, m10) else some (R.val undef, m10)) (fun v11 m12 =>
bindR (bif saidL v9 false then (intL .eql v11 (Value.int .i64 0)).bind fun v13 =>
some (R.val v13, m12) else some (R.val undef, m12)) (fun v14 m15 =>
bindR (bif saidL v6 true then (pickL v9 (Value.bool true) v14).bind fun v16 =>
some (R.val v16, m15) else some (R.val undef, m15)) (fun v17 m18 =>
(pickL v6 v17 (Value.bool false)).bind fun v19 =>
retL m0 v19 m18) (panL m0)) (panL m0)) (panL m0)) (panL m0)) (panL m0)) (panL m0)) (panL m0)) = some r) : G Pg E 55 [] m0 (rho0 [a0, a1]) m = some r := G_of 400 Tryd.func55 rfl (by kernel_rfl) h


/- 56: lampblack/like.kids -/
theorem x56 (m0 m : Mem) (a0 : Value) {r : DEnd × Mem} (h : (
(strL .eql a0 (Value.string ⟨#[61]⟩)).bind fun v0 =>
condL v0 (
G Pg E 56 [1, 0, 1, 0, 1] m0 (Rho.put (Rho.put (Rho.put (Rho.put (rho0 [a0]) (some 2) (Value.int .i64 0)) (some 3) a0) (some 5) v0) (some 4) v0) m) (
(strL .eql a0 (Value.string ⟨#[126]⟩)).bind fun v1 =>
G Pg E 56 [1, 0, 1, 0, 1] m0 (Rho.put (Rho.put (Rho.put (Rho.put (Rho.put (Rho.put (rho0 [a0]) (some 2) (Value.int .i64 0)) (some 3) a0) (some 5) v0) (some 4) v0) (some 6) v1) (some 4) v1) m)) = some r) : G Pg E 56 [] m0 (rho0 [a0]) m = some r := G_of 400 Tryd.func56 rfl (by kernel_rfl) h

theorem x56_1_0_1_0_1 (m0 m : Mem) (ρ : Rho) {r : DEnd × Mem} (h : (
condL (ρ 4) (
retL m0 (Value.int .i64 0) m) (
(strL .eql (ρ 3) (Value.string ⟨#[33]⟩)).bind fun v0 =>
condL v0 (
G Pg E 56 [1, 0, 1, 0, 1, 1, 1] m0 (Rho.put (Rho.put ρ (some 8) v0) (some 7) v0) m) (
(strL .eql (ρ 3) (Value.string ⟨#[69]⟩)).bind fun v1 =>
G Pg E 56 [1, 0, 1, 0, 1, 1, 1] m0 (Rho.put (Rho.put (Rho.put (Rho.put ρ (some 8) v0) (some 7) v0) (some 9) v1) (some 7) v1) m))) = some r) : G Pg E 56 [1, 0, 1, 0, 1] m0 ρ m = some r := G_of 400 Tryd.func56 rfl (by kernel_rfl) h

theorem x56_1_0_1_0_1_1_1 (m0 m : Mem) (ρ : Rho) {r : DEnd × Mem} (h : (
condL (ρ 7) (
retL m0 (Value.int .i64 1) m) (
(strL .eql (ρ 3) (Value.string ⟨#[38]⟩)).bind fun v0 =>
condL v0 (
retL m0 (Value.int .i64 2) m) (
retL m0 (Value.int .i64 (-1)) m))) = some r) : G Pg E 56 [1, 0, 1, 0, 1, 1, 1] m0 ρ m = some r := G_of 400 Tryd.func56 rfl (by kernel_rfl) h


/- 25: (lampblack/like.Form).print -/
theorem x25 (m0 m : Mem) (a0 : Value) {r : DEnd × Mem} (h : (
newC m (Array.toList (Value.cells a0)) 27 fun v0 m1 =>
newC m1 [(Value.pointer none), (Value.slice none 0 0)] 81 fun v2 m3 =>
(ldn m3 4 v0).bind fun v4 =>
endC (run Pg E 43 [v4, v2] m3) (fun _ m6 =>
endC (run Pg E 44 [v2] m6) (fun v7 m8 =>
retL m0 v7 m8) (panL m0)) (panL m0)) = some r) : G Pg E 25 [] m0 (rho0 [a0]) m = some r := G_of 400 Tryd.func25 rfl (by kernel_rfl) h


/- 43: (lampblack/like.Form).write -/
theorem x43 (m0 m : Mem) (a0 a1 : Value) {r : DEnd × Mem} (h : (
newC m (Array.toList (Value.cells a0)) 27 fun v0 m1 =>
(fld v0 0).bind fun v2 =>
(ld m1 v2).bind fun v3 =>
(strL .eql v3 (Value.string ⟨#[61]⟩)).bind fun v4 =>
condL v4 (
G Pg E 43 [1, 1, 0, 1] m0 (Rho.put (Rho.put (Rho.put (Rho.put (Rho.put (rho0 [a0, a1]) (some 2) v0) (some 4) v2) (some 5) v3) (some 7) v4) (some 6) v4) m1) (
(strL .eql v3 (Value.string ⟨#[126]⟩)).bind fun v5 =>
G Pg E 43 [1, 1, 0, 1] m0 (Rho.put (Rho.put (Rho.put (Rho.put (Rho.put (Rho.put (Rho.put (rho0 [a0, a1]) (some 2) v0) (some 4) v2) (some 5) v3) (some 7) v4) (some 6) v4) (some 8) v5) (some 6) v5) m1)) = some r) : G Pg E 43 [] m0 (rho0 [a0, a1]) m = some r := G_of 400 Tryd.func43 rfl (by kernel_rfl) h

theorem x43_1_1_0_1 (m0 m : Mem) (ρ : Rho) {r : DEnd × Mem} (h : (
condL (ρ 6) (
(fld (ρ 2) 1).bind fun v0 =>
(ld m v0).bind fun v1 =>
quiet (run Pg E 58 [v1] m.mark) m fun v2 =>
(fld (ρ 2) 0).bind fun v3 =>
(ld m v3).bind fun v4 =>
(strL .add v2 v4).bind fun v5 =>
(fld (ρ 2) 2).bind fun v6 =>
(ld m v6).bind fun v7 =>
quiet (run Pg E 58 [v7] m.mark) m fun v8 =>
(strL .add v5 v8).bind fun v9 =>
endD (run Pg E 57 [(ρ 1), v9] m.mark) m fun _ m11 _ =>
retL m0 (Value.tuple #[]) m11) (
(strL .eql (ρ 5) (Value.string ⟨#[33]⟩)).bind fun v13 =>
condL v13 (
endC (run Pg E 57 [(ρ 1), (Value.string ⟨#[33]⟩)] m) (fun _ m15 =>
(fld (ρ 2) 3).bind fun v16 =>
(ld m15 v16).bind fun v17 =>
(ixS 4 v17 (Value.int .i64 0)).bind fun v18 =>
(ldn m15 4 v18).bind fun v19 =>
endC (run Pg E 43 [v19, (ρ 1)] m15) (fun _ m21 =>
retL m0 (Value.tuple #[]) m21) (panL m0)) (panL m0)) (
(strL .eql (ρ 5) (Value.string ⟨#[69]⟩)).bind fun v22 =>
condL v22 (
(fld (ρ 2) 1).bind fun v23 =>
(ld m v23).bind fun v24 =>
endC (run Pg E 58 [v24] m) (fun v25 m26 =>
(strL .add (Value.string ⟨#[69]⟩) v25).bind fun v27 =>
(strL .add v27 (Value.string ⟨#[32]⟩)).bind fun v28 =>
endC (run Pg E 57 [(ρ 1), v28] m26) (fun _ m30 =>
(fld (ρ 2) 3).bind fun v31 =>
(ld m30 v31).bind fun v32 =>
(ixS 4 v32 (Value.int .i64 0)).bind fun v33 =>
(ldn m30 4 v33).bind fun v34 =>
endC (run Pg E 43 [v34, (ρ 1)] m30) (fun _ m36 =>
retL m0 (Value.tuple #[]) m36) (panL m0)) (panL m0)) (panL m0)) (
(strL .eql (ρ 5) (Value.string ⟨#[38]⟩)).bind fun v37 =>
condL v37 (
endC (run Pg E 57 [(ρ 1), (Value.string ⟨#[40]⟩)] m) (fun _ m39 =>
(fld (ρ 2) 3).bind fun v40 =>
(ld m39 v40).bind fun v41 =>
(ixS 4 v41 (Value.int .i64 0)).bind fun v42 =>
(ldn m39 4 v42).bind fun v43 =>
endC (run Pg E 43 [v43, (ρ 1)] m39) (fun _ m45 =>
endC (run Pg E 57 [(ρ 1), (Value.string ⟨#[38]⟩)] m45) (fun _ m47 =>
(fld (ρ 2) 3).bind fun v48 =>
(ld m47 v48).bind fun v49 =>
(ixS 4 v49 (Value.int .i64 1)).bind fun v50 =>
(ldn m47 4 v50).bind fun v51 =>
endC (run Pg E 43 [v51, (ρ 1)] m47) (fun _ m53 =>
endC (run Pg E 57 [(ρ 1), (Value.string ⟨#[41]⟩)] m53) (fun _ m55 =>
retL m0 (Value.tuple #[]) m55) (panL m0)) (panL m0)) (panL m0)) (panL m0)) (panL m0)) (
retL m0 (Value.tuple #[]) m))))) = some r) : G Pg E 43 [1, 1, 0, 1] m0 ρ m = some r := G_of 400 Tryd.func43 rfl (by kernel_rfl) h


/- 57: (*strings.Builder).WriteString -/
theorem x57 (m0 m : Mem) (a0 a1 : Value) {r : DEnd × Mem} (h : (
endC (run Pg E 70 [a0] m) (fun _ m1 =>
(isPtr a0).bind fun v2 =>
(fld v2 1).bind fun v3 =>
(ld m1 v3).bind fun v4 =>
andV (appS m1 5 1 1 v4 a1) fun v5 m6 =>
(isPtr a0).bind fun v7 =>
(fld v7 1).bind fun v8 =>
(stn m6 1 v8 v5).bind fun m9 =>
(lenStr a1).bind fun v10 =>
retL m0 (Value.tuple #[v10, Value.nilIface]) m9) (panL m0)) = some r) : G Pg E 57 [] m0 (rho0 [a0, a1]) m = some r := G_of 400 Tryd.func57 rfl (by kernel_rfl) h


/- 70: (*strings.Builder).copyCheck -/
theorem x70 (m0 m : Mem) (a0 : Value) {r : DEnd × Mem} (h : (
(isPtr a0).bind fun v0 =>
(fld v0 0).bind fun v1 =>
(ld m v1).bind fun v2 =>
(D.ptrEq v2 (Value.pointer none)).bind fun b3 =>
condL (Value.bool b3) (
(ptrIn Pg 81 m a0).bind fun v4 =>
(ptrOut Pg 81 m v4).bind fun v5 =>
(isPtr a0).bind fun v6 =>
(fld v6 0).bind fun v7 =>
(stn m 1 v7 v5).bind fun m8 =>
retL m0 (Value.tuple #[]) m8) (
(isPtr a0).bind fun v9 =>
(fld v9 0).bind fun v10 =>
(ld m v10).bind fun v11 =>
(D.ptrEq v11 a0).bind fun b12 =>
condL (Value.bool !b12) (
none) (
retL m0 (Value.tuple #[]) m))) = some r) : G Pg E 70 [] m0 (rho0 [a0]) m = some r := G_of 400 Tryd.func70 rfl (by kernel_rfl) h


/- 44: (*strings.Builder).String -/
theorem x44 (m0 m : Mem) (a0 : Value) {r : DEnd × Mem} (h : (
(isPtr a0).bind fun v0 =>
(fld v0 1).bind fun v1 =>
(ld m v1).bind fun v2 =>
(sliceData v2).bind fun v3 =>
(isPtr a0).bind fun v4 =>
(fld v4 1).bind fun v5 =>
(ld m v5).bind fun v6 =>
(lenSl v6).bind fun v7 =>
andV (bytesStr m 5 1 v3 v7) fun v8 m9 =>
retL m0 v8 m9) = some r) : G Pg E 44 [] m0 (rho0 [a0]) m = some r := G_of 400 Tryd.func44 rfl (by kernel_rfl) h


/- 58: lampblack/like.letter -/
theorem x58 (m0 m : Mem) (a0 : Value) {r : DEnd × Mem} (h : (
(intL .add a0 (Value.int .i64 1)).bind fun v0 =>
(slStr (Value.string ⟨#[97, 98, 99, 100]⟩) (some a0) (some v0) none).bind fun v1 =>
retL m0 v1 m) = some r) : G Pg E 58 [] m0 (rho0 [a0]) m = some r := G_of 400 Tryd.func58 rfl (by kernel_rfl) h


/- 8: lampblack/like.Depth -/
theorem x8 (m0 m : Mem) (a0 : Value) {r : DEnd × Mem} (h : (
newC m (Array.toList (Value.cells a0)) 27 fun v0 m1 =>
(ldn m1 4 v0).bind fun v2 =>
endC (run Pg E 24 [v2] m1) (fun v3 m4 =>
(notL v3).bind fun v5 =>
condL v5 (
retL m0 (Value.tuple #[(Value.int .i64 0), (Value.int .i64 2)]) m4) (
(ldn m4 4 v0).bind fun v6 =>
endC (run Pg E 26 [v6] m4) (fun v7 m8 =>
retL m0 (Value.tuple #[v7, (Value.int .i64 0)]) m8) (panL m0))) (panL m0)) = some r) : G Pg E 8 [] m0 (rho0 [a0]) m = some r := G_of 400 Tryd.func8 rfl (by kernel_rfl) h


/- 26: (lampblack/like.Form).depth -/
theorem x26 (m0 m : Mem) (a0 : Value) {r : DEnd × Mem} (h : (
newC m (Array.toList (Value.cells a0)) 27 fun v0 m1 =>
(fld v0 3).bind fun v2 =>
(ld m1 v2).bind fun v3 =>
(lenSl v3).bind fun v4 =>
G Pg E 26 [1, 1, 0, 1, 0] m0 (Rho.put (Rho.put (Rho.put (Rho.put (Rho.put (Rho.put (Rho.put (rho0 [a0]) (some 1) v0) (some 2) (Value.int .i64 0)) (some 3) (Value.int .i64 0)) (some 6) v2) (some 7) v3) (some 8) v4) (some 9) (Value.int .i64 0)) m1) = some r) : G Pg E 26 [] m0 (rho0 [a0]) m = some r := G_of 400 Tryd.func26 rfl (by kernel_rfl) h

theorem x26_1_1_0_1_0 {m0 m : Mem} {ρ : Rho} {r : DEnd × Mem} (h : G Pg E 26 [1, 1, 0, 1, 0, 0] m0 ρ m = some r) : G Pg E 26 [1, 1, 0, 1, 0] m0 ρ m = some r := G_loop Tryd.func26 rfl rfl rfl h

theorem x26_1_1_0_1_0_0 (m0 m : Mem) (ρ : Rho) {r : DEnd × Mem} (h : (
(intL .lss (ρ 9) (ρ 8)).bind fun v0 =>
condL v0 (
(ixS 4 (ρ 7) (ρ 9)).bind fun v1 =>
(ldn m 4 v1).bind fun v2 =>
newC m [(Value.string ⟨#[]⟩), (Value.int .i64 0), (Value.int .i64 0), (Value.slice none 0 0)] 27 fun v3 m4 =>
(stn m4 4 v3 v2).bind fun m5 =>
(ldn m5 4 v3).bind fun v6 =>
endC (run Pg E 26 [v6] m5) (fun v7 m8 =>
(minMax true (ρ 3) [v7]).bind fun v9 =>
(intL .add (ρ 9) (Value.int .i64 1)).bind fun v10 =>
G Pg E 26 [1, 1, 0, 1, 0] m0 (Rho.put (Rho.put (Rho.put (Rho.put (Rho.put (Rho.put (Rho.put (Rho.put (Rho.put (Rho.put (Rho.put ρ (some 10) v0) (some 11) v1) (some 12) v2) (some 5) v3) (some 13) (ρ 3)) (some 14) v6) (some 15) v7) (some 16) v9) (some 3) v9) (some 17) v10) (some 9) v10) m8) (panL m0)) (
G Pg E 26 [1, 1, 1] m0 (Rho.put ρ (some 10) v0) m)) = some r) : G Pg E 26 [1, 1, 0, 1, 0, 0] m0 ρ m = some r := G_of 400 Tryd.func26 rfl (by kernel_rfl) h

theorem x26_1_1_1 (m0 m : Mem) (ρ : Rho) {r : DEnd × Mem} (h : (
(fld (ρ 1) 0).bind fun v0 =>
(ld m v0).bind fun v1 =>
(strL .eql v1 (Value.string ⟨#[69]⟩)).bind fun v2 =>
condL v2 (
(intL .add (ρ 3) (Value.int .i64 1)).bind fun v3 =>
retL m0 v3 m) (
retL m0 (ρ 3) m)) = some r) : G Pg E 26 [1, 1, 1] m0 ρ m = some r := G_of 400 Tryd.func26 rfl (by kernel_rfl) h


/- 9: lampblack/lampblackref09.Formula -/
theorem x9 (m0 m : Mem) (a0 : Value) {r : DEnd × Mem} (h : (
newC m (Array.toList (Value.cells a0)) 24 fun v0 m1 =>
(ldn m1 4 v0).bind fun v2 =>
endC (run Pg E 27 [v2] m1) (fun v3 m4 =>
(intL .leq v3 (Value.int .i64 2000)).bind fun v5 =>
bindR (bif saidL v5 true then (ldn m4 4 v0).bind fun v6 =>
some (R.val v6, m4) else some (R.val undef, m4)) (fun v7 m8 =>
bindR (bif saidL v5 true then endC (run Pg E 28 [v7, (Value.int .i64 41)] m8) (fun v9 m10 =>
some (R.val v9, m10)) (fun v m => some (R.pan v, m)) else some (R.val undef, m8)) (fun v11 m12 =>
bindR (bif saidL v5 true then (intL .leq v11 (Value.int .i64 40)).bind fun v13 =>
some (R.val v13, m12) else some (R.val undef, m12)) (fun v14 m15 =>
(pickL v5 v14 (Value.bool false)).bind fun v16 =>
bindR (bif saidL v16 true then (ldn m15 4 v0).bind fun v17 =>
some (R.val v17, m15) else some (R.val undef, m15)) (fun v18 m19 =>
bindR (bif saidL v16 true then endC (run Pg E 29 [v18] m19) (fun v20 m21 =>
some (R.val v20, m21)) (fun v m => some (R.pan v, m)) else some (R.val undef, m19)) (fun v22 m23 =>
(pickL v16 v22 (Value.bool false)).bind fun v24 =>
retL m0 v24 m23) (panL m0)) (panL m0)) (panL m0)) (panL m0)) (panL m0)) (panL m0)) = some r) : G Pg E 9 [] m0 (rho0 [a0]) m = some r := G_of 400 Tryd.func9 rfl (by kernel_rfl) h


/- 27: lampblack/lampblackref09.Size -/
theorem x27 (m0 m : Mem) (a0 : Value) {r : DEnd × Mem} (h : (
newC m (Array.toList (Value.cells a0)) 24 fun v0 m1 =>
(fld v0 3).bind fun v2 =>
(ld m1 v2).bind fun v3 =>
(lenSl v3).bind fun v4 =>
G Pg E 27 [1, 1, 0, 1, 0] m0 (Rho.put (Rho.put (Rho.put (Rho.put (Rho.put (Rho.put (Rho.put (rho0 [a0]) (some 1) v0) (some 2) (Value.int .i64 0)) (some 3) (Value.int .i64 1)) (some 6) v2) (some 7) v3) (some 8) v4) (some 9) (Value.int .i64 0)) m1) = some r) : G Pg E 27 [] m0 (rho0 [a0]) m = some r := G_of 400 Tryd.func27 rfl (by kernel_rfl) h

theorem x27_1_1_0_1_0 {m0 m : Mem} {ρ : Rho} {r : DEnd × Mem} (h : G Pg E 27 [1, 1, 0, 1, 0, 0] m0 ρ m = some r) : G Pg E 27 [1, 1, 0, 1, 0] m0 ρ m = some r := G_loop Tryd.func27 rfl rfl rfl h

theorem x27_1_1_0_1_0_0 (m0 m : Mem) (ρ : Rho) {r : DEnd × Mem} (h : (
(intL .lss (ρ 9) (ρ 8)).bind fun v0 =>
condL v0 (
(ixS 4 (ρ 7) (ρ 9)).bind fun v1 =>
(ldn m 4 v1).bind fun v2 =>
newC m [(Value.string ⟨#[]⟩), (Value.int .i64 0), (Value.int .i64 0), (Value.slice none 0 0)] 24 fun v3 m4 =>
(stn m4 4 v3 v2).bind fun m5 =>
(ldn m5 4 v3).bind fun v6 =>
endC (run Pg E 27 [v6] m5) (fun v7 m8 =>
(intL .add (ρ 3) v7).bind fun v9 =>
(intL .gtr v9 (Value.int .i64 2000)).bind fun v10 =>
condL v10 (
retL m0 (Value.int .i64 2001) m8) (
(intL .add (ρ 9) (Value.int .i64 1)).bind fun v11 =>
G Pg E 27 [1, 1, 0, 1, 0] m0 (Rho.put (Rho.put (Rho.put (Rho.put (Rho.put (Rho.put (Rho.put (Rho.put (Rho.put (Rho.put (Rho.put (Rho.put (Rho.put ρ (some 10) v0) (some 11) v1) (some 12) v2) (some 5) v3) (some 13) (ρ 3)) (some 14) v6) (some 15) v7) (some 16) v9) (some 3) v9) (some 17) v9) (some 18) v10) (some 19) v11) (some 9) v11) m8)) (panL m0)) (
retL m0 (ρ 3) m)) = some r) : G Pg E 27 [1, 1, 0, 1, 0, 0] m0 ρ m = some r := G_of 400 Tryd.func27 rfl (by kernel_rfl) h


/- 28: lampblack/lampblackref09.Deep -/
theorem x28 (m0 m : Mem) (a0 a1 : Value) {r : DEnd × Mem} (h : (
newC m (Array.toList (Value.cells a0)) 24 fun v0 m1 =>
(fld v0 3).bind fun v2 =>
(ld m1 v2).bind fun v3 =>
(lenSl v3).bind fun v4 =>
G Pg E 28 [1, 1, 0, 1, 0] m0 (Rho.put (Rho.put (Rho.put (Rho.put (Rho.put (Rho.put (Rho.put (rho0 [a0, a1]) (some 2) v0) (some 4) (Value.int .i64 0)) (some 5) (Value.int .i64 1)) (some 8) v2) (some 9) v3) (some 10) v4) (some 11) (Value.int .i64 0)) m1) = some r) : G Pg E 28 [] m0 (rho0 [a0, a1]) m = some r := G_of 400 Tryd.func28 rfl (by kernel_rfl) h

theorem x28_1_1_0_1_0 {m0 m : Mem} {ρ : Rho} {r : DEnd × Mem} (h : G Pg E 28 [1, 1, 0, 1, 0, 0] m0 ρ m = some r) : G Pg E 28 [1, 1, 0, 1, 0] m0 ρ m = some r := G_loop Tryd.func28 rfl rfl rfl h

theorem x28_1_1_0_1_0_0 (m0 m : Mem) (ρ : Rho) {r : DEnd × Mem} (h : (
(intL .lss (ρ 11) (ρ 10)).bind fun v0 =>
condL v0 (
(ixS 4 (ρ 9) (ρ 11)).bind fun v1 =>
(ldn m 4 v1).bind fun v2 =>
newC m [(Value.string ⟨#[]⟩), (Value.int .i64 0), (Value.int .i64 0), (Value.slice none 0 0)] 24 fun v3 m4 =>
(stn m4 4 v3 v2).bind fun m5 =>
(intL .lss (ρ 1) (Value.int .i64 1)).bind fun v6 =>
condL v6 (
retL m0 (Value.int .i64 41) m5) (
(ldn m5 4 v3).bind fun v7 =>
(intL .sub (ρ 1) (Value.int .i64 1)).bind fun v8 =>
endC (run Pg E 28 [v7, v8] m5) (fun v9 m10 =>
(intL .add (Value.int .i64 1) v9).bind fun v11 =>
(minMax true (ρ 5) [v11]).bind fun v12 =>
(intL .add (ρ 11) (Value.int .i64 1)).bind fun v13 =>
G Pg E 28 [1, 1, 0, 1, 0] m0 (Rho.put (Rho.put (Rho.put (Rho.put (Rho.put (Rho.put (Rho.put (Rho.put (Rho.put (Rho.put (Rho.put (Rho.put (Rho.put (Rho.put (Rho.put (Rho.put ρ (some 12) v0) (some 13) v1) (some 14) v2) (some 7) v3) (some 15) (ρ 1)) (some 16) v6) (some 17) (ρ 5)) (some 18) v7) (some 19) (ρ 1)) (some 20) v8) (some 21) v9) (some 22) v11) (some 23) v12) (some 5) v12) (some 24) v13) (some 11) v13) m10) (panL m0))) (
retL m0 (ρ 5) m)) = some r) : G Pg E 28 [1, 1, 0, 1, 0, 0] m0 ρ m = some r := G_of 400 Tryd.func28 rfl (by kernel_rfl) h


/- 29: lampblack/lampblackref09.shaped -/
theorem x29 (m0 m : Mem) (a0 : Value) {r : DEnd × Mem} (h : (
newC m (Array.toList (Value.cells a0)) 24 fun v0 m1 =>
(fld v0 0).bind fun v2 =>
(ld m1 v2).bind fun v3 =>
endC (run Pg E 45 [v3] m1) (fun v4 m5 =>
(fld v0 3).bind fun v6 =>
(ld m5 v6).bind fun v7 =>
(lenSl v7).bind fun v8 =>
(intL .neq v8 v4).bind fun v9 =>
bindR (bif saidL v9 false then (fld v0 1).bind fun v10 =>
some (R.val v10, m5) else some (R.val undef, m5)) (fun v11 m12 =>
bindR (bif saidL v9 false then (ld m12 v11).bind fun v13 =>
some (R.val v13, m12) else some (R.val undef, m12)) (fun v14 m15 =>
bindR (bif saidL v9 false then (intL .lss v14 (Value.int .i64 0)).bind fun v16 =>
some (R.val v16, m15) else some (R.val undef, m15)) (fun v17 m18 =>
(pickL v9 (Value.bool true) v17).bind fun v19 =>
bindR (bif saidL v19 false then (fld v0 1).bind fun v20 =>
some (R.val v20, m18) else some (R.val undef, m18)) (fun v21 m22 =>
bindR (bif saidL v19 false then (ld m22 v21).bind fun v23 =>
some (R.val v23, m22) else some (R.val undef, m22)) (fun v24 m25 =>
bindR (bif saidL v19 false then (intL .gtr v24 (Value.int .i64 3)).bind fun v26 =>
some (R.val v26, m25) else some (R.val undef, m25)) (fun v27 m28 =>
(pickL v19 (Value.bool true) v27).bind fun v29 =>
bindR (bif saidL v29 false then (fld v0 2).bind fun v30 =>
some (R.val v30, m28) else some (R.val undef, m28)) (fun v31 m32 =>
bindR (bif saidL v29 false then (ld m32 v31).bind fun v33 =>
some (R.val v33, m32) else some (R.val undef, m32)) (fun v34 m35 =>
bindR (bif saidL v29 false then (intL .lss v34 (Value.int .i64 0)).bind fun v36 =>
some (R.val v36, m35) else some (R.val undef, m35)) (fun v37 m38 =>
(pickL v29 (Value.bool true) v37).bind fun v39 =>
bindR (bif saidL v39 false then (fld v0 2).bind fun v40 =>
some (R.val v40, m38) else some (R.val undef, m38)) (fun v41 m42 =>
bindR (bif saidL v39 false then (ld m42 v41).bind fun v43 =>
some (R.val v43, m42) else some (R.val undef, m42)) (fun v44 m45 =>
bindR (bif saidL v39 false then (intL .gtr v44 (Value.int .i64 3)).bind fun v46 =>
some (R.val v46, m45) else some (R.val undef, m45)) (fun v47 m48 =>
(pickL v39 (Value.bool true) v47).bind fun v49 =>
bindR (bif saidL v49 false then some (R.val v4, m48) else some (R.val undef, m48)) (fun v50 m51 =>
bindR (bif saidL v49 false then (intL .gtr v50 (Value.int .i64 0)).bind fun v52 =>
some (R.val v52, m51) else some (R.val undef, m51)) (fun v53 m54 =>
bindR (bif saidL v49 false then some (R.val v53, m54) else some (R.val undef, m54)) (fun v55 m56 =>
bindR (bif saidL v55 true then (fld v0 2).bind fun v57 =>
some (R.val v57, m56) else some (R.val undef, m56)) (fun v58 m59 =>
bindR (bif saidL v55 true then (ld m59 v58).bind fun v60 =>
some (R.val v60, m59) else some (R.val undef, m59)) (fun v61 m62 =>
bindR (bif saidL v55 true then (intL .neq v61 (Value.int .i64 0)).bind fun v63 =>
some (R.val v63, m62) else some (R.val undef, m62)) (fun v64 m65 =>
bindR (bif saidL v49 false then (pickL v55 v64 (Value.bool false)).bind fun v66 =>
some (R.val v66, m65) else some (R.val undef, m65)) (fun v67 m68 =>
(pickL v49 (Value.bool true) v67).bind fun v69 =>
bindR (bif saidL v69 false then (fld v0 0).bind fun v70 =>
some (R.val v70, m68) else some (R.val undef, m68)) (fun v71 m72 =>
bindR (bif saidL v69 false then (ld m72 v71).bind fun v73 =>
some (R.val v73, m72) else some (R.val undef, m72)) (fun v74 m75 =>
bindR (bif saidL v69 false then (strL .eql v74 (Value.string ⟨#[33]⟩)).bind fun v76 =>
some (R.val v76, m75) else some (R.val undef, m75)) (fun v77 m78 =>
bindR (bif saidL v69 false then some (R.val v77, m78) else some (R.val undef, m78)) (fun v79 m80 =>
bindR (bif saidL v79 false then (fld v0 0).bind fun v81 =>
some (R.val v81, m80) else some (R.val undef, m80)) (fun v82 m83 =>
bindR (bif saidL v79 false then (ld m83 v82).bind fun v84 =>
some (R.val v84, m83) else some (R.val undef, m83)) (fun v85 m86 =>
bindR (bif saidL v79 false then (strL .eql v85 (Value.string ⟨#[38]⟩)).bind fun v87 =>
some (R.val v87, m86) else some (R.val undef, m86)) (fun v88 m89 =>
bindR (bif saidL v69 false then (pickL v79 (Value.bool true) v88).bind fun v90 =>
some (R.val v90, m89) else some (R.val undef, m89)) (fun v91 m92 =>
bindR (bif saidL v69 false then some (R.val v91, m92) else some (R.val undef, m92)) (fun v93 m94 =>
bindR (bif saidL v93 true then (fld v0 1).bind fun v95 =>
some (R.val v95, m94) else some (R.val undef, m94)) (fun v96 m97 =>
bindR (bif saidL v93 true then (ld m97 v96).bind fun v98 =>
some (R.val v98, m97) else some (R.val undef, m97)) (fun v99 m100 =>
bindR (bif saidL v93 true then (intL .neq v99 (Value.int .i64 0)).bind fun v101 =>
some (R.val v101, m100) else some (R.val undef, m100)) (fun v102 m103 =>
bindR (bif saidL v69 false then (pickL v93 v102 (Value.bool false)).bind fun v104 =>
some (R.val v104, m103) else some (R.val undef, m103)) (fun v105 m106 =>
(pickL v69 (Value.bool true) v105).bind fun v107 =>
condL v107 (
retL m0 (Value.bool false) m106) (
(fld v0 3).bind fun v108 =>
(ld m106 v108).bind fun v109 =>
(lenSl v109).bind fun v110 =>
G Pg E 29 [1, 1, 1, 0, 1, 0] m0 (Rho.put (Rho.put (Rho.put (Rho.put (Rho.put (Rho.put (Rho.put (Rho.put (Rho.put (Rho.put (Rho.put (Rho.put (Rho.put (Rho.put (Rho.put (Rho.put (Rho.put (Rho.put (Rho.put (Rho.put (Rho.put (Rho.put (Rho.put (Rho.put (Rho.put (Rho.put (Rho.put (Rho.put (Rho.put (Rho.put (Rho.put (Rho.put (Rho.put (Rho.put (Rho.put (Rho.put (Rho.put (Rho.put (Rho.put (Rho.put (Rho.put (Rho.put (Rho.put (Rho.put (Rho.put (Rho.put (Rho.put (Rho.put (Rho.put (Rho.put (Rho.put (Rho.put (Rho.put (Rho.put (Rho.put (Rho.put (Rho.put (Rho.put (Rho.put (rho0 [a0]) (some 1) v0) (some 2) (Value.bool false)) (some 6) v2) (some 7) v3) (some 8) v4) (some 3) v4) (some 9) v6) (some 10) v7) (some 11) v8) (some 12) v4) (some 13) v9) (some 14) v9) (some 15) v11) (some 16) v14) (some 17) v17) (some 18) v19) (some 19) v19) (some 20) v21) (some 21) v24) (some 22) v27) (some 23) v29) (some 24) v29) (some 25) v31) (some 26) v34) (some 27) v37) (some 28) v39) (some 29) v39) (some 30) v41) (some 31) v44) (some 32) v47) (some 33) v49) (some 34) v49) (some 35) v50) (some 36) v53) (some 37) v55) (some 38) v58) (some 39) v61) (some 40) v64) (some 41) v67) (some 42) v69) (some 43) v69) (some 44) v71) (some 45) v74) (some 46) v77) (some 47) v79) (some 48) v82) (some 49) v85) (some 50) v88) (some 51) v91) (some 52) v93) (some 53) v96) (some 54) v99) (some 55) v102) (some 56) v105) (some 57) v107) (some 58) v108) (some 59) v109) (some 60) v110) (some 61) (Value.int .i64 0)) m106)) (panL m0)) (panL m0)) (panL m0)) (panL m0)) (panL m0)) (panL m0)) (panL m0)) (panL m0)) (panL m0)) (panL m0)) (panL m0)) (panL m0)) (panL m0)) (panL m0)) (panL m0)) (panL m0)) (panL m0)) (panL m0)) (panL m0)) (panL m0)) (panL m0)) (panL m0)) (panL m0)) (panL m0)) (panL m0)) (panL m0)) (panL m0)) (panL m0)) (panL m0)) (panL m0)) (panL m0)) (panL m0)) (panL m0)) = some r) : G Pg E 29 [] m0 (rho0 [a0]) m = some r := G_of 400 Tryd.func29 rfl (by kernel_rfl) h

theorem x29_1_1_1_0_1_0 {m0 m : Mem} {ρ : Rho} {r : DEnd × Mem} (h : G Pg E 29 [1, 1, 1, 0, 1, 0, 0] m0 ρ m = some r) : G Pg E 29 [1, 1, 1, 0, 1, 0] m0 ρ m = some r := G_loop Tryd.func29 rfl rfl rfl h

theorem x29_1_1_1_0_1_0_0 (m0 m : Mem) (ρ : Rho) {r : DEnd × Mem} (h : (
(intL .lss (ρ 61) (ρ 60)).bind fun v0 =>
condL v0 (
(ixS 4 (ρ 59) (ρ 61)).bind fun v1 =>
(ldn m 4 v1).bind fun v2 =>
newC m [(Value.string ⟨#[]⟩), (Value.int .i64 0), (Value.int .i64 0), (Value.slice none 0 0)] 24 fun v3 m4 =>
(stn m4 4 v3 v2).bind fun m5 =>
(ldn m5 4 v3).bind fun v6 =>
endC (run Pg E 29 [v6] m5) (fun v7 m8 =>
(notL v7).bind fun v9 =>
condL v9 (
retL m0 (Value.bool false) m8) (
(intL .add (ρ 61) (Value.int .i64 1)).bind fun v10 =>
G Pg E 29 [1, 1, 1, 0, 1, 0] m0 (Rho.put (Rho.put (Rho.put (Rho.put (Rho.put (Rho.put (Rho.put (Rho.put (Rho.put ρ (some 62) v0) (some 63) v1) (some 64) v2) (some 5) v3) (some 65) v6) (some 66) v7) (some 67) v9) (some 68) v10) (some 61) v10) m8)) (panL m0)) (
retL m0 (Value.bool true) m)) = some r) : G Pg E 29 [1, 1, 1, 0, 1, 0, 0] m0 ρ m = some r := G_of 400 Tryd.func29 rfl (by kernel_rfl) h


/- 45: lampblack/lampblackref09.kids -/
theorem x45 (m0 m : Mem) (a0 : Value) {r : DEnd × Mem} (h : (
(strL .eql a0 (Value.string ⟨#[61]⟩)).bind fun v0 =>
condL v0 (
G Pg E 45 [1, 0, 1, 0, 1] m0 (Rho.put (Rho.put (Rho.put (Rho.put (rho0 [a0]) (some 2) (Value.int .i64 0)) (some 3) a0) (some 5) v0) (some 4) v0) m) (
(strL .eql a0 (Value.string ⟨#[126]⟩)).bind fun v1 =>
G Pg E 45 [1, 0, 1, 0, 1] m0 (Rho.put (Rho.put (Rho.put (Rho.put (Rho.put (Rho.put (rho0 [a0]) (some 2) (Value.int .i64 0)) (some 3) a0) (some 5) v0) (some 4) v0) (some 6) v1) (some 4) v1) m)) = some r) : G Pg E 45 [] m0 (rho0 [a0]) m = some r := G_of 400 Tryd.func45 rfl (by kernel_rfl) h

theorem x45_1_0_1_0_1 (m0 m : Mem) (ρ : Rho) {r : DEnd × Mem} (h : (
condL (ρ 4) (
retL m0 (Value.int .i64 0) m) (
(strL .eql (ρ 3) (Value.string ⟨#[33]⟩)).bind fun v0 =>
condL v0 (
G Pg E 45 [1, 0, 1, 0, 1, 1, 1] m0 (Rho.put (Rho.put ρ (some 8) v0) (some 7) v0) m) (
(strL .eql (ρ 3) (Value.string ⟨#[69]⟩)).bind fun v1 =>
G Pg E 45 [1, 0, 1, 0, 1, 1, 1] m0 (Rho.put (Rho.put (Rho.put (Rho.put ρ (some 8) v0) (some 7) v0) (some 9) v1) (some 7) v1) m))) = some r) : G Pg E 45 [1, 0, 1, 0, 1] m0 ρ m = some r := G_of 400 Tryd.func45 rfl (by kernel_rfl) h

theorem x45_1_0_1_0_1_1_1 (m0 m : Mem) (ρ : Rho) {r : DEnd × Mem} (h : (
condL (ρ 7) (
retL m0 (Value.int .i64 1) m) (
(strL .eql (ρ 3) (Value.string ⟨#[38]⟩)).bind fun v0 =>
condL v0 (
retL m0 (Value.int .i64 2) m) (
retL m0 (Value.int .i64 (-1)) m))) = some r) : G Pg E 45 [1, 0, 1, 0, 1, 1, 1] m0 ρ m = some r := G_of 400 Tryd.func45 rfl (by kernel_rfl) h


/- 11: lampblack/lampblackref09.Text -/
theorem x11 (m0 m : Mem) (a0 : Value) {r : DEnd × Mem} (h : (
newC m (Array.toList (Value.cells a0)) 24 fun v0 m1 =>
(fld v0 1).bind fun v2 =>
(ld m1 v2).bind fun v3 =>
(fld v0 1).bind fun v4 =>
(ld m1 v4).bind fun v5 =>
(intL .add v5 (Value.int .i64 1)).bind fun v6 =>
(slStr (Value.string ⟨#[97, 98, 99, 100]⟩) (some v3) (some v6) none).bind fun v7 =>
(fld v0 2).bind fun v8 =>
(ld m1 v8).bind fun v9 =>
(fld v0 2).bind fun v10 =>
(ld m1 v10).bind fun v11 =>
(intL .add v11 (Value.int .i64 1)).bind fun v12 =>
(slStr (Value.string ⟨#[97, 98, 99, 100]⟩) (some v9) (some v12) none).bind fun v13 =>
(fld v0 0).bind fun v14 =>
(ld m1 v14).bind fun v15 =>
(strL .eql v15 (Value.string ⟨#[61]⟩)).bind fun v16 =>
condL v16 (
G Pg E 11 [1, 1, 0, 1, 0, 1] m0 (Rho.put (Rho.put (Rho.put (Rho.put (Rho.put (Rho.put (Rho.put (Rho.put (Rho.put (Rho.put (Rho.put (Rho.put (Rho.put (Rho.put (Rho.put (Rho.put (Rho.put (Rho.put (Rho.put (Rho.put (rho0 [a0]) (some 1) v0) (some 2) (Value.string ⟨#[]⟩)) (some 5) v2) (some 6) v3) (some 7) v4) (some 8) v5) (some 9) v6) (some 10) v7) (some 11) v8) (some 12) v9) (some 13) v10) (some 14) v11) (some 15) v12) (some 16) v13) (some 3) v7) (some 4) v13) (some 17) v14) (some 18) v15) (some 20) v16) (some 19) v16) m1) (
(strL .eql v15 (Value.string ⟨#[126]⟩)).bind fun v17 =>
G Pg E 11 [1, 1, 0, 1, 0, 1] m0 (Rho.put (Rho.put (Rho.put (Rho.put (Rho.put (Rho.put (Rho.put (Rho.put (Rho.put (Rho.put (Rho.put (Rho.put (Rho.put (Rho.put (Rho.put (Rho.put (Rho.put (Rho.put (Rho.put (Rho.put (Rho.put (Rho.put (rho0 [a0]) (some 1) v0) (some 2) (Value.string ⟨#[]⟩)) (some 5) v2) (some 6) v3) (some 7) v4) (some 8) v5) (some 9) v6) (some 10) v7) (some 11) v8) (some 12) v9) (some 13) v10) (some 14) v11) (some 15) v12) (some 16) v13) (some 3) v7) (some 4) v13) (some 17) v14) (some 18) v15) (some 20) v16) (some 19) v16) (some 21) v17) (some 19) v17) m1)) = some r) : G Pg E 11 [] m0 (rho0 [a0]) m = some r := G_of 400 Tryd.func11 rfl (by kernel_rfl) h

theorem x11_1_1_0_1_0_1 (m0 m : Mem) (ρ : Rho) {r : DEnd × Mem} (h : (
condL (ρ 19) (
(fld (ρ 1) 0).bind fun v0 =>
(ld m v0).bind fun v1 =>
(strL .add (ρ 3) v1).bind fun v2 =>
(strL .add v2 (ρ 4)).bind fun v3 =>
retL m0 v3 m) (
(strL .eql (ρ 18) (Value.string ⟨#[33]⟩)).bind fun v4 =>
condL v4 (
(fld (ρ 1) 3).bind fun v5 =>
(ld m v5).bind fun v6 =>
(ixS 4 v6 (Value.int .i64 0)).bind fun v7 =>
(ldn m 4 v7).bind fun v8 =>
endC (run Pg E 11 [v8] m) (fun v9 m10 =>
(strL .add (Value.string ⟨#[33]⟩) v9).bind fun v11 =>
retL m0 v11 m10) (panL m0)) (
(strL .eql (ρ 18) (Value.string ⟨#[69]⟩)).bind fun v12 =>
condL v12 (
(strL .add (Value.string ⟨#[69]⟩) (ρ 3)).bind fun v13 =>
(strL .add v13 (Value.string ⟨#[32]⟩)).bind fun v14 =>
(fld (ρ 1) 3).bind fun v15 =>
(ld m v15).bind fun v16 =>
(ixS 4 v16 (Value.int .i64 0)).bind fun v17 =>
(ldn m 4 v17).bind fun v18 =>
endC (run Pg E 11 [v18] m) (fun v19 m20 =>
(strL .add v14 v19).bind fun v21 =>
retL m0 v21 m20) (panL m0)) (
G Pg E 11 [1, 1, 1] m0 (Rho.put (Rho.put (Rho.put (Rho.put ρ (some 29) v4) (some 28) v4) (some 37) v12) (some 36) v12) m)))) = some r) : G Pg E 11 [1, 1, 0, 1, 0, 1] m0 ρ m = some r := G_of 400 Tryd.func11 rfl (by kernel_rfl) h

theorem x11_1_1_1 (m0 m : Mem) (ρ : Rho) {r : DEnd × Mem} (h : (
(fld (ρ 1) 3).bind fun v0 =>
(ld m v0).bind fun v1 =>
(ixS 4 v1 (Value.int .i64 0)).bind fun v2 =>
(ldn m 4 v2).bind fun v3 =>
quiet (run Pg E 11 [v3] m.mark) m fun v4 =>
(strL .add (Value.string ⟨#[40]⟩) v4).bind fun v5 =>
(strL .add v5 (Value.string ⟨#[38]⟩)).bind fun v6 =>
(fld (ρ 1) 3).bind fun v7 =>
(ld m v7).bind fun v8 =>
(ixS 4 v8 (Value.int .i64 1)).bind fun v9 =>
(ldn m 4 v9).bind fun v10 =>
endD (run Pg E 11 [v10] m.mark) m fun v11 m12 _ =>
(strL .add v6 v11).bind fun v14 =>
(strL .add v14 (Value.string ⟨#[41]⟩)).bind fun v15 =>
retL m0 v15 m12) = some r) : G Pg E 11 [1, 1, 1] m0 ρ m = some r := G_of 400 Tryd.func11 rfl (by kernel_rfl) h


/- 12: lampblack/lampblackref09.Depth -/
theorem x12 (m0 m : Mem) (a0 : Value) {r : DEnd × Mem} (h : (
newC m (Array.toList (Value.cells a0)) 24 fun v0 m1 =>
(fld v0 3).bind fun v2 =>
(ld m1 v2).bind fun v3 =>
(lenSl v3).bind fun v4 =>
G Pg E 12 [1, 1, 0, 1, 0] m0 (Rho.put (Rho.put (Rho.put (Rho.put (Rho.put (Rho.put (Rho.put (rho0 [a0]) (some 1) v0) (some 2) (Value.int .i64 0)) (some 3) (Value.int .i64 0)) (some 6) v2) (some 7) v3) (some 8) v4) (some 9) (Value.int .i64 0)) m1) = some r) : G Pg E 12 [] m0 (rho0 [a0]) m = some r := G_of 400 Tryd.func12 rfl (by kernel_rfl) h

theorem x12_1_1_0_1_0 {m0 m : Mem} {ρ : Rho} {r : DEnd × Mem} (h : G Pg E 12 [1, 1, 0, 1, 0, 0] m0 ρ m = some r) : G Pg E 12 [1, 1, 0, 1, 0] m0 ρ m = some r := G_loop Tryd.func12 rfl rfl rfl h

theorem x12_1_1_0_1_0_0 (m0 m : Mem) (ρ : Rho) {r : DEnd × Mem} (h : (
(intL .lss (ρ 9) (ρ 8)).bind fun v0 =>
condL v0 (
(ixS 4 (ρ 7) (ρ 9)).bind fun v1 =>
(ldn m 4 v1).bind fun v2 =>
newC m [(Value.string ⟨#[]⟩), (Value.int .i64 0), (Value.int .i64 0), (Value.slice none 0 0)] 24 fun v3 m4 =>
(stn m4 4 v3 v2).bind fun m5 =>
(ldn m5 4 v3).bind fun v6 =>
endC (run Pg E 12 [v6] m5) (fun v7 m8 =>
(minMax true (ρ 3) [v7]).bind fun v9 =>
(intL .add (ρ 9) (Value.int .i64 1)).bind fun v10 =>
G Pg E 12 [1, 1, 0, 1, 0] m0 (Rho.put (Rho.put (Rho.put (Rho.put (Rho.put (Rho.put (Rho.put (Rho.put (Rho.put (Rho.put (Rho.put ρ (some 10) v0) (some 11) v1) (some 12) v2) (some 5) v3) (some 13) (ρ 3)) (some 14) v6) (some 15) v7) (some 16) v9) (some 3) v9) (some 17) v10) (some 9) v10) m8) (panL m0)) (
G Pg E 12 [1, 1, 1] m0 (Rho.put ρ (some 10) v0) m)) = some r) : G Pg E 12 [1, 1, 0, 1, 0, 0] m0 ρ m = some r := G_of 400 Tryd.func12 rfl (by kernel_rfl) h

theorem x12_1_1_1 (m0 m : Mem) (ρ : Rho) {r : DEnd × Mem} (h : (
(fld (ρ 1) 0).bind fun v0 =>
(ld m v0).bind fun v1 =>
(strL .eql v1 (Value.string ⟨#[69]⟩)).bind fun v2 =>
condL v2 (
(intL .add (ρ 3) (Value.int .i64 1)).bind fun v3 =>
retL m0 v3 m) (
retL m0 (ρ 3) m)) = some r) : G Pg E 12 [1, 1, 1] m0 ρ m = some r := G_of 400 Tryd.func12 rfl (by kernel_rfl) h


end Go.Proofs.YtfdfickokkokmaaDoor

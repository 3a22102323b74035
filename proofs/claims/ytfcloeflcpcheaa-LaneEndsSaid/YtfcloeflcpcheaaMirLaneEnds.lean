/-
Plain functions that the functions of the program are shown to come to, printed by a program of the prover; each with its proof.
Conditions: none.
-/
import Derived.Test.YtfcloeflcpcheaaMirLaneEndsA
import Derived.KernelRfl
set_option linter.unusedVariables false
namespace Go.Proofs.Ytfcloeflcpcheaa.Eng
def ap_21 : List Pat := []
def hp_21 : List (Option (Pat × Nat)) := []
abbrev Tp_21 (R : Type) : Type := (Unit) × (Unit) → (Bool → Option R) → Option R
def Q_21 {R : Type} (q_14 : Tp_14 R) (q_22 : Tp_22 R) (q_27 : Tp_27 R) (q_24 : Tp_24 R) (q_22_v1 : Tp_22_v1 R) (q_27_v1 : Tp_27_v1 R) (x : (Unit) × (Unit)) (κ0 : Bool → Option R) : Option R :=
q_14 (((1, (1, (16, (1, (32, ()))))), ()), ()) (fun y159 =>
q_22 (((), 0, ()), ()) (fun y161 =>
let i162 := y161.1.2.1
q_22 (((), 0, ()), ()) (fun y163 =>
let i164 := y163.1.2.1
q_27 (((), ()), ()) (fun y165 =>
let i166 := y165.1.1.1
let i167 := y165.1.1.2.1
let i168 := y165.1.1.2.2.1.1
let i169 := y165.1.1.2.2.1.2.1
let i170 := y165.1.1.2.2.2.1.1
let i171 := y165.1.1.2.2.2.1.2.1
let i172 := y165.1.1.2.2.2.2.1.1
let i173 := y165.1.1.2.2.2.2.1.2.1
let i174 := y165.1.2.1
q_27 (((), ()), ()) (fun y175 =>
let i176 := y175.1.1.1
let i177 := y175.1.1.2.1
let i178 := y175.1.1.2.2.1.1
let i179 := y175.1.1.2.2.1.2.1
let i180 := y175.1.1.2.2.2.1.1
let i181 := y175.1.1.2.2.2.1.2.1
let i182 := y175.1.1.2.2.2.2.1.1
let i183 := y175.1.1.2.2.2.2.1.2.1
let i184 := y175.1.2.1
bif (i162 == 11) then (
q_24 (((), ()), ()) (fun y185 =>
let b186 : Bool := y185
bif b186 then (
bif (i164 == 0) then (
bif (i174 == 0) then (
bif (i184 == 0) then (
bif (i166 == 1) then (
bif (i176 == 2) then (
κ0 ((schEq (.stru (.fcons (.int .i64) (.fcons (.int .i64) (.fnil)))) ((i180, (i181, ()))) ((0, (2, ())))))) else (
κ0 false)) else (
κ0 false)) else (
κ0 false)) else (
κ0 false)) else (
κ0 false)) else (
κ0 false))) else (
κ0 false)))))) (fun y187 =>
let i188 := y187.2.1.2.1.1
let i189 := y187.2.1.2.1.2.1
let i190 := y187.2.1.2.1.2.2.1
let i191 := y187.2.1.2.1.2.2.2.1
let i192 := y187.2.1.2.1.2.2.2.2.1
let i193 := y187.2.1.2.1.2.2.2.2.2.1
let i194 := y187.2.1.2.1.2.2.2.2.2.2.1
let i195 := y187.2.1.2.1.2.2.2.2.2.2.2.1
let b196 := y187.2.2.1.2.2.1
let i197 := y187.2.2.2.1.1
let i198 := y187.2.2.2.1.2.1
let i199 := y187.2.2.2.1.2.2.1
let i200 := y187.2.2.2.1.2.2.2.1
let l201 := y187.2.2.2.2.1
q_22 (((), 0, ()), ()) (fun y202 =>
let i203 := y202.1.2.1
q_22_v1 (((), 0, ()), (((), ((i188, (i189, (i190, (i191, (i192, (i193, (i194, (i195, ())))))))), ())), ((), ((), (b196, ()))), (i197, (i198, (i199, (i200, ())))), l201, ())) (fun y326 =>
let i327 := y326.1.2.1
let i328 := y326.2.1.2.1.1
let i329 := y326.2.1.2.1.2.1
let i330 := y326.2.1.2.1.2.2.1
let i331 := y326.2.1.2.1.2.2.2.1
let i332 := y326.2.1.2.1.2.2.2.2.1
let i333 := y326.2.1.2.1.2.2.2.2.2.1
let i334 := y326.2.1.2.1.2.2.2.2.2.2.1
let i335 := y326.2.1.2.1.2.2.2.2.2.2.2.1
let b336 := y326.2.2.1.2.2.1
let i337 := y326.2.2.2.1.1
let i338 := y326.2.2.2.1.2.1
let i339 := y326.2.2.2.1.2.2.1
let i340 := y326.2.2.2.1.2.2.2.1
let l341 := y326.2.2.2.2.1
q_27 (((), ()), ()) (fun y342 =>
let i343 := y342.1.1.1
let i344 := y342.1.1.2.1
let i345 := y342.1.1.2.2.1.1
let i346 := y342.1.1.2.2.1.2.1
let i347 := y342.1.1.2.2.2.1.1
let i348 := y342.1.1.2.2.2.1.2.1
let i349 := y342.1.1.2.2.2.2.1.1
let i350 := y342.1.1.2.2.2.2.1.2.1
let i351 := y342.1.2.1
q_27 (((), ()), ()) (fun y352 =>
let i353 := y352.1.1.1
let i354 := y352.1.1.2.1
let i355 := y352.1.1.2.2.1.1
let i356 := y352.1.1.2.2.1.2.1
let i357 := y352.1.1.2.2.2.1.1
let i358 := y352.1.1.2.2.2.1.2.1
let i359 := y352.1.1.2.2.2.2.1.1
let i360 := y352.1.1.2.2.2.2.1.2.1
let i361 := y352.1.2.1
bif (i203 == 11) then (
q_24 (((), ()), ()) (fun y362 =>
let b363 := y362
bif b363 then (
bif (i327 == 0) then (
bif (i351 == 0) then (
bif (i361 == 0) then (
bif (i343 == 1) then (
bif (i353 == 2) then (
κ0 ((schEq (.stru (.fcons (.int .i64) (.fcons (.int .i64) (.fnil)))) ((i357, (i358, ()))) ((0, (2, ())))))) else (
κ0 false)) else (
κ0 false)) else (
κ0 false)) else (
κ0 false)) else (
κ0 false)) else (
κ0 false))) else (
κ0 false)))) (fun y364 =>
let i365 := y364.1.2.1
let i366 := y364.2.1.2.1.1
let i367 := y364.2.1.2.1.2.1
let i368 := y364.2.1.2.1.2.2.1
let i369 := y364.2.1.2.1.2.2.2.1
let i370 := y364.2.1.2.1.2.2.2.2.1
let i371 := y364.2.1.2.1.2.2.2.2.2.1
let i372 := y364.2.1.2.1.2.2.2.2.2.2.1
let i373 := y364.2.1.2.1.2.2.2.2.2.2.2.1
let b374 := y364.2.2.1.2.2.1
let i375 := y364.2.2.2.1.1
let i376 := y364.2.2.2.1.2.1
let i377 := y364.2.2.2.1.2.2.1
let i378 := y364.2.2.2.1.2.2.2.1
let l379 := y364.2.2.2.2.1
let i380 := y364.2.2.2.2.2.1.2.1
let i381 := y364.2.2.2.2.2.1.2.2.1.1
let i382 := y364.2.2.2.2.2.1.2.2.1.2.1
let i383 := y364.2.2.2.2.2.1.2.2.2.1
let i384 := y364.2.2.2.2.2.1.2.2.2.2.2.1.1.1
let i385 := y364.2.2.2.2.2.1.2.2.2.2.2.1.1.2.1
let i386 := y364.2.2.2.2.2.1.2.2.2.2.2.1.2.1.1
let i387 := y364.2.2.2.2.2.1.2.2.2.2.2.1.2.1.2.1
let i388 := y364.2.2.2.2.2.1.2.2.2.2.2.1.2.2.1.1
let i389 := y364.2.2.2.2.2.1.2.2.2.2.2.1.2.2.1.2.1
let b390 := y364.2.2.2.2.2.1.2.2.2.2.2.2.1
let b391 := y364.2.2.2.2.2.1.2.2.2.2.2.2.2.1
let b392 := y364.2.2.2.2.2.1.2.2.2.2.2.2.2.2.1
let i393 := y364.2.2.2.2.2.2.1.1.1
let i394 := y364.2.2.2.2.2.2.1.1.2.1
let i395 := y364.2.2.2.2.2.2.1.1.2.2.1
let i396 := y364.2.2.2.2.2.2.1.1.2.2.2.1
let i397 := y364.2.2.2.2.2.2.1.1.2.2.2.2.1
let i398 := y364.2.2.2.2.2.2.1.1.2.2.2.2.2.1
let i399 := y364.2.2.2.2.2.2.1.1.2.2.2.2.2.2.1
let i400 := y364.2.2.2.2.2.2.1.1.2.2.2.2.2.2.2.1
let i401 := y364.2.2.2.2.2.2.1.2.1.1
let i402 := y364.2.2.2.2.2.2.1.2.1.2.1
let i403 := y364.2.2.2.2.2.2.1.2.2.1
let i404 := y364.2.2.2.2.2.2.1.2.2.2.1
let a405 := y364.2.2.2.2.2.2.1.2.2.2.2.1
q_27_v1 (((), ()), (((), (i380, ((i381, (i382, ())), (i383, ((), (((i384, (i385, ())), ((i386, (i387, ())), ((i388, (i389, ())), ()))), (b390, (b391, (b392, ()))))))))), ((), ((i366, (i367, (i368, (i369, (i370, (i371, (i372, (i373, ())))))))), ())), ((), ((), (b374, ()))), (i375, (i376, (i377, (i378, ())))), l379, ((i393, (i394, (i395, (i396, (i397, (i398, (i399, (i400, ())))))))), ((i401, (i402, ())), (i403, (i404, (a405, ()))))), ())) (fun y1286 =>
let i1287 := y1286.1.1.1
let i1288 := y1286.1.1.2.1
let i1289 := y1286.1.1.2.2.1.1
let i1290 := y1286.1.1.2.2.1.2.1
let i1291 := y1286.1.1.2.2.2.1.1
let i1292 := y1286.1.1.2.2.2.1.2.1
let i1293 := y1286.1.1.2.2.2.2.1.1
let i1294 := y1286.1.1.2.2.2.2.1.2.1
let i1295 := y1286.1.2.1
let i1296 := y1286.2.1.2.1
let i1297 := y1286.2.1.2.2.1.1
let i1298 := y1286.2.1.2.2.1.2.1
let i1299 := y1286.2.1.2.2.2.1
let i1300 := y1286.2.1.2.2.2.2.2.1.1.1
let i1301 := y1286.2.1.2.2.2.2.2.1.1.2.1
let i1302 := y1286.2.1.2.2.2.2.2.1.2.1.1
let i1303 := y1286.2.1.2.2.2.2.2.1.2.1.2.1
let i1304 := y1286.2.1.2.2.2.2.2.1.2.2.1.1
let i1305 := y1286.2.1.2.2.2.2.2.1.2.2.1.2.1
let b1306 := y1286.2.1.2.2.2.2.2.2.1
let b1307 := y1286.2.1.2.2.2.2.2.2.2.1
let b1308 := y1286.2.1.2.2.2.2.2.2.2.2.1
let i1309 := y1286.2.2.1.2.1.1
let i1310 := y1286.2.2.1.2.1.2.1
let i1311 := y1286.2.2.1.2.1.2.2.1
let i1312 := y1286.2.2.1.2.1.2.2.2.1
let i1313 := y1286.2.2.1.2.1.2.2.2.2.1
let i1314 := y1286.2.2.1.2.1.2.2.2.2.2.1
let i1315 := y1286.2.2.1.2.1.2.2.2.2.2.2.1
let i1316 := y1286.2.2.1.2.1.2.2.2.2.2.2.2.1
let b1317 := y1286.2.2.2.1.2.2.1
let i1318 := y1286.2.2.2.2.1.1
let i1319 := y1286.2.2.2.2.1.2.1
let i1320 := y1286.2.2.2.2.1.2.2.1
let i1321 := y1286.2.2.2.2.1.2.2.2.1
let l1322 := y1286.2.2.2.2.2.1
let i1323 := y1286.2.2.2.2.2.2.1.1.1
let i1324 := y1286.2.2.2.2.2.2.1.1.2.1
let i1325 := y1286.2.2.2.2.2.2.1.1.2.2.1
let i1326 := y1286.2.2.2.2.2.2.1.1.2.2.2.1
let i1327 := y1286.2.2.2.2.2.2.1.1.2.2.2.2.1
let i1328 := y1286.2.2.2.2.2.2.1.1.2.2.2.2.2.1
let i1329 := y1286.2.2.2.2.2.2.1.1.2.2.2.2.2.2.1
let i1330 := y1286.2.2.2.2.2.2.1.1.2.2.2.2.2.2.2.1
let i1331 := y1286.2.2.2.2.2.2.1.2.1.1
let i1332 := y1286.2.2.2.2.2.2.1.2.1.2.1
let i1333 := y1286.2.2.2.2.2.2.1.2.2.1
let i1334 := y1286.2.2.2.2.2.2.1.2.2.2.1
let a1335 := y1286.2.2.2.2.2.2.1.2.2.2.2.1
q_27_v1 (((), ()), (((), (i1296, ((i1297, (i1298, ())), (i1299, ((), (((i1300, (i1301, ())), ((i1302, (i1303, ())), ((i1304, (i1305, ())), ()))), (b1306, (b1307, (b1308, ()))))))))), ((), ((i1309, (i1310, (i1311, (i1312, (i1313, (i1314, (i1315, (i1316, ())))))))), ())), ((), ((), (b1317, ()))), (i1318, (i1319, (i1320, (i1321, ())))), l1322, ((i1323, (i1324, (i1325, (i1326, (i1327, (i1328, (i1329, (i1330, ())))))))), ((i1331, (i1332, ())), (i1333, (i1334, (a1335, ()))))), ())) (fun y1336 =>
let i1337 := y1336.1.1.1
let i1338 := y1336.1.1.2.1
let i1339 := y1336.1.1.2.2.1.1
let i1340 := y1336.1.1.2.2.1.2.1
let i1341 := y1336.1.1.2.2.2.1.1
let i1342 := y1336.1.1.2.2.2.1.2.1
let i1343 := y1336.1.1.2.2.2.2.1.1
let i1344 := y1336.1.1.2.2.2.2.1.2.1
let i1345 := y1336.1.2.1
let i1346 := y1336.2.1.2.1
let i1347 := y1336.2.1.2.2.1.1
let i1348 := y1336.2.1.2.2.1.2.1
let i1349 := y1336.2.1.2.2.2.1
let i1350 := y1336.2.1.2.2.2.2.2.1.1.1
let i1351 := y1336.2.1.2.2.2.2.2.1.1.2.1
let i1352 := y1336.2.1.2.2.2.2.2.1.2.1.1
let i1353 := y1336.2.1.2.2.2.2.2.1.2.1.2.1
let i1354 := y1336.2.1.2.2.2.2.2.1.2.2.1.1
let i1355 := y1336.2.1.2.2.2.2.2.1.2.2.1.2.1
let b1356 := y1336.2.1.2.2.2.2.2.2.1
let b1357 := y1336.2.1.2.2.2.2.2.2.2.1
let b1358 := y1336.2.1.2.2.2.2.2.2.2.2.1
let i1359 := y1336.2.2.1.2.1.1
let i1360 := y1336.2.2.1.2.1.2.1
let i1361 := y1336.2.2.1.2.1.2.2.1
let i1362 := y1336.2.2.1.2.1.2.2.2.1
let i1363 := y1336.2.2.1.2.1.2.2.2.2.1
let i1364 := y1336.2.2.1.2.1.2.2.2.2.2.1
let i1365 := y1336.2.2.1.2.1.2.2.2.2.2.2.1
let i1366 := y1336.2.2.1.2.1.2.2.2.2.2.2.2.1
let b1367 := y1336.2.2.2.1.2.2.1
let i1368 := y1336.2.2.2.2.1.1
let i1369 := y1336.2.2.2.2.1.2.1
let i1370 := y1336.2.2.2.2.1.2.2.1
let i1371 := y1336.2.2.2.2.1.2.2.2.1
let l1372 := y1336.2.2.2.2.2.1
let i1373 := y1336.2.2.2.2.2.2.1.1.1
let i1374 := y1336.2.2.2.2.2.2.1.1.2.1
let i1375 := y1336.2.2.2.2.2.2.1.1.2.2.1
let i1376 := y1336.2.2.2.2.2.2.1.1.2.2.2.1
let i1377 := y1336.2.2.2.2.2.2.1.1.2.2.2.2.1
let i1378 := y1336.2.2.2.2.2.2.1.1.2.2.2.2.2.1
let i1379 := y1336.2.2.2.2.2.2.1.1.2.2.2.2.2.2.1
let i1380 := y1336.2.2.2.2.2.2.1.1.2.2.2.2.2.2.2.1
let i1381 := y1336.2.2.2.2.2.2.1.2.1.1
let i1382 := y1336.2.2.2.2.2.2.1.2.1.2.1
let i1383 := y1336.2.2.2.2.2.2.1.2.2.1
let i1384 := y1336.2.2.2.2.2.2.1.2.2.2.1
let a1385 := y1336.2.2.2.2.2.2.1.2.2.2.2.1
bif (i203 == 11) then (
q_24 (((), ()), ()) (fun y1386 =>
let b1387 : Bool := y1386
bif b1387 then (
bif (i365 == 0) then (
bif (i1295 == 0) then (
bif (i1345 == 0) then (
bif (i1287 == 1) then (
bif (i1337 == 2) then (
κ0 ((schEq (.stru (.fcons (.int .i64) (.fcons (.int .i64) (.fnil)))) ((i1341, (i1342, ()))) ((0, (2, ())))))) else (
κ0 false)) else (
κ0 false)) else (
κ0 false)) else (
κ0 false)) else (
κ0 false)) else (
κ0 false))) else (
κ0 false))))))
def p_21 {R : Type} (N : Nat) (x : (Unit) × (Unit)) (κ0 : Bool → Option R) : Option R := Q_21 (p_14 N) (p_22 N) (p_27 N) (p_24 N) (p_22_v1 N) (p_27_v1 N) x κ0
def EG_21 {R : Type} (q_14 : Tp_14 R) (q_22 : Tp_22 R) (q_27 : Tp_27 R) (q_24 : Tp_24 R) (q_22_v1 : Tp_22_v1 R) (q_27_v1 : Tp_27_v1 R) : Env R := ((((((Env.base QQ LN AA).add 14 ap_14 hp_14 (fun (x : aden ap_14 × hden hp_14) k => q_14 x (fun y => k (Pat.inst (.nilp) y.1) (instH [] y.2)) (fun y => k (Pat.inst (.ptr 0 []) y.1) (instH J1 y.2)))).add 22 ap_22 hp_22 (fun (x : aden ap_22 × hden hp_22) k => q_22 x (fun y => k (Pat.inst (.tup (.fcons (.nilp) (.fcons (.int .i64) (.fnil)))) y.1) (instH [] y.2)))).add 27 ap_27 hp_27 (fun (x : aden ap_27 × hden hp_27) k => q_27 x (fun y => k (Pat.inst (.tup (.fcons Z12 (.fcons (.int .i64) (.fnil)))) y.1) (instH [] y.2)))).add 24 ap_24 hp_24 (fun (x : aden ap_24 × hden hp_24) k => q_24 x (fun y => k (Pat.inst (.bool) y) (instH hp_24 x.2)))).add 22 ap_22_v1 hp_22_v1 (fun (x : aden ap_22_v1 × hden hp_22_v1) k => q_22_v1 x (fun y => k (Pat.inst (.tup (.fcons (.nilp) (.fcons (.int .i64) (.fnil)))) y.1) (instH J1 y.2)) (fun y => k (Pat.inst (.tup (.fcons (.ptr 4 []) (.fcons (.int .i64) (.fnil)))) y.1) (instH J5 y.2)))).add 27 ap_27_v1 hp_27_v1 (fun (x : aden ap_27_v1 × hden hp_27_v1) k => q_27_v1 x (fun y => k (Pat.inst (.tup (.fcons Z12 (.fcons (.int .i64) (.fnil)))) y.1) (instH J0 y.2)))
def LG_21 {R : Type} : Loops R := Loops.none
def E_21 {R : Type} (N : Nat) : Env R := EG_21 (p_14 N) (p_22 N) (p_27 N) (p_24 N) (p_22_v1 N) (p_27_v1 N)
theorem eok_21 {R : Type} (N : Nat) : EK Try.prog (E_21 (R := R) N) := ek_add (ek_add (ek_add (ek_add (ek_add (ek_add (ek_base _ _ _) (good_14 N)) (good_22 N)) (good_27 N)) (good_24 N)) (good_22_v1 N)) (good_27_v1 N)
def L_21 {R : Type} (N : Nat) : Loops R := LG_21
theorem lok_21 {R : Type} (N : Nat) : LOK 0 TT (E_21 (R := R) N) (drawAny TT WW) (L_21 N) (bodyOf Try.f21) := loops_nil (by kernel_rfl)
theorem grun_21 {R : Type} (q_14 : Tp_14 R) (q_22 : Tp_22 R) (q_27 : Tp_27 R) (q_24 : Tp_24 R) (q_22_v1 : Tp_22_v1 R) (q_27_v1 : Tp_27_v1 R) (x : aden ap_21 × hden hp_21) (k : KF R) : fnrun TT (EG_21 q_14 q_22 q_27 q_24 q_22_v1 q_27_v1) (drawAny TT WW) (LG_21) true Try.f21 (instA ap_21 x.1) (instH hp_21 x.2) k = Q_21 q_14 q_22 q_27 q_24 q_22_v1 q_27_v1 x (fun y => k (Pat.inst (.bool) y) (instH hp_21 x.2)) := by kernel_rfl
theorem run_21 {R : Type} (N : Nat) (x : aden ap_21 × hden hp_21) (k : KF R) : fnrun TT (E_21 (R := R) N) (drawAny TT WW) (L_21 N) true Try.f21 (instA ap_21 x.1) (instH hp_21 x.2) k = p_21 N x (fun y => k (Pat.inst (.bool) y) (instH hp_21 x.2)) := (grun_21 (p_14 N) (p_22 N) (p_27 N) (p_24 N) (p_22_v1 N) (p_27_v1 N) x k).trans (by kernel_rfl)
theorem good_21 {R : Type} (N : Nat) : GD (X := R) Try.prog QQ AA 21 ap_21 hp_21 (fun (x : aden ap_21 × hden hp_21) k => p_21 N x (fun y => k (Pat.inst (.bool) y) (instH hp_21 x.2))) :=
  gd_quiet (E := E_21 N) (p := fun (x : aden ap_21 × hden hp_21) κ => p_21 N x (fun y => κ (Pat.inst (.bool) y))) mixed tyok (eok_21 N) Try.func21 (by kernel_rfl) (by kernel_rfl) (lok_21 N) (fun x k => run_21 N x k)

def lv_62_3 : Live := [(0, none), (4, none), (5, none), (12, none), (13, none), (14, none)]
def pt_62_3 : SPat := ⟨[(0, .sl 0), (4, .int .i64), (5, .bool), (12, .sl 0), (13, .int .i64), (14, .int .i64)], [some (.lst (.int .i64), 3)]⟩
def px_62_3_0 : SPat := ⟨[(2, .int .i64), (3, .int .i64)], [some (.lst (.int .i64), 3)]⟩
def px_62_3_1 : SPat := ⟨[(0, .sl 0), (4, .int .i64), (5, .bool)], [some (.lst (.int .i64), 3)]⟩
def lo_62_3 : Exit → Live
  | .ret => [(2, none), (3, none)]
  | .exit 0 => [(0, none), (4, none), (5, none)]
  | _ => []
def lv_62_12 : Live := [(4, none), (28, none), (29, none), (30, none)]
def pt_62_12 : SPat := ⟨[(4, .int .i64), (28, .sl 0), (29, .int .i64), (30, .int .i64)], [some (.lst (.int .i64), 3)]⟩
def px_62_12_0 : SPat := ⟨[(2, .int .i64), (3, .int .i64)], [some (.lst (.int .i64), 3)]⟩
def px_62_12_1 : SPat := ⟨[(4, .int .i64)], [some (.lst (.int .i64), 3)]⟩
def lo_62_12 : Exit → Live
  | .ret => [(2, none), (3, none)]
  | .exit 2 => [(4, none)]
  | _ => []
def ap_62 : List Pat := [.sl 0]
def hp_62 : List (Option (Pat × Nat)) := [some (.lst (.int .i64), 3)]
abbrev Tl_62_3 (R : Type) : Type := ((Unit × Int × Bool × Unit × Int × Int × Unit) × ((List Int) × Unit)) → (((Int × Int × Unit) × ((List Int) × Unit)) → Option R) → (((Unit × Int × Bool × Unit) × ((List Int) × Unit)) → Option R) → Option R
abbrev Tl_62_12 (R : Type) : Type := ((Int × Unit × Int × Int × Unit) × ((List Int) × Unit)) → (((Int × Int × Unit) × ((List Int) × Unit)) → Option R) → (((Int × Unit) × ((List Int) × Unit)) → Option R) → Option R
abbrev Tp_62 (R : Type) : Type := (Unit × Unit) × ((List Int) × Unit) → (((Int × (Int × Unit)) × ((List Int) × Unit)) → Option R) → Option R
def C_62_3 {R : Type} (q_88 : Tp_88 R) (rec : ((Unit × Int × Bool × Unit × Int × Int × Unit) × ((List Int) × Unit)) → Option R) (x : ((Unit × Int × Bool × Unit × Int × Int × Unit) × ((List Int) × Unit))) (κ0 : ((Int × Int × Unit) × ((List Int) × Unit)) → Option R) (κ1 : ((Unit × Int × Bool × Unit) × ((List Int) × Unit)) → Option R) : Option R :=
let i1433 := x.1.2.1
let b1434 := x.1.2.2.1
let i1435 := x.1.2.2.2.2.1
let i1436 := x.1.2.2.2.2.2.1
let l1437 := x.2.1
bif (decide (i1436 < i1435)) then (
bif decide (0 ≤ i1436) then (
bif decide (i1436 < ((List.length l1437) : Int)) then (
let i1438 : Int := (List.getD l1437 ((Int.toNat i1436)) (Sch.zero (.int .i64)))
q_88 ((i1438, ()), ()) (fun y1439 =>
let b1440 : Bool := y1439
bif (!b1440) then (
κ0 ((0, 1, ()), (l1437, ()))) else (
bif b1434 then (
let i1441 : Int := addA .i64 i1436 1
rec (((), i1433, true, (), i1435, i1441, ()), (l1437, ()))) else (
let i1442 : Int := addA .i64 i1436 1
rec (((), i1433, (i1438 == 0), (), i1435, i1442, ()), (l1437, ())))))) else none) else none) else (
κ1 (((), i1433, b1434, ()), (l1437, ())))
def C_62_12 {R : Type} (q_89 : Tp_89 R) (rec : ((Int × Unit × Int × Int × Unit) × ((List Int) × Unit)) → Option R) (x : ((Int × Unit × Int × Int × Unit) × ((List Int) × Unit))) (κ0 : ((Int × Int × Unit) × ((List Int) × Unit)) → Option R) (κ1 : ((Int × Unit) × ((List Int) × Unit)) → Option R) : Option R :=
let i1452 := x.1.1
let i1453 := x.1.2.2.1
let i1454 := x.1.2.2.2.1
let l1455 := x.2.1
bif (decide (i1454 < i1453)) then (
bif decide (0 ≤ i1454) then (
bif decide (i1454 < ((List.length l1455) : Int)) then (
let i1456 : Int := (List.getD l1455 ((Int.toNat i1454)) (Sch.zero (.int .i64)))
let i1457 : Int := IntKind.wrap .u64 i1452
let i1458 : Int := IntKind.wrap .u64 i1456
q_89 ((i1457, i1458, ()), ()) (fun y1459 =>
let i1460 := y1459.1
let i1461 := y1459.2.1
bif (decide (i1460 > 0)) then (
κ0 ((0, 10, ()), (l1455, ()))) else (
bif (decide (i1461 > 4611686018427387904)) then (
κ0 ((0, 10, ()), (l1455, ()))) else (
let i1462 : Int := IntKind.wrap .i64 i1461
let i1463 : Int := addA .i64 i1454 1
rec ((i1462, (), i1453, i1463, ()), (l1455, ())))))) else none) else none) else (
κ1 ((i1452, ()), (l1455, ())))
def B_62_3 {R : Type} (N : Nat) (rec : ((Unit × Int × Bool × Unit × Int × Int × Unit) × ((List Int) × Unit)) → Option R) (x : ((Unit × Int × Bool × Unit × Int × Int × Unit) × ((List Int) × Unit))) (κ0 : ((Int × Int × Unit) × ((List Int) × Unit)) → Option R) (κ1 : ((Unit × Int × Bool × Unit) × ((List Int) × Unit)) → Option R) : Option R := C_62_3 (p_88 N) rec x κ0 κ1
def l_62_3 {R : Type} (N : Nat) : Nat → ((Unit × Int × Bool × Unit × Int × Int × Unit) × ((List Int) × Unit)) → (((Int × Int × Unit) × ((List Int) × Unit)) → Option R) → (((Unit × Int × Bool × Unit) × ((List Int) × Unit)) → Option R) → Option R
  | 0, _, _, _ => none
  | n + 1, x, κ0, κ1 => B_62_3 N (fun y => l_62_3 N n y κ0 κ1) x κ0 κ1
def B_62_12 {R : Type} (N : Nat) (rec : ((Int × Unit × Int × Int × Unit) × ((List Int) × Unit)) → Option R) (x : ((Int × Unit × Int × Int × Unit) × ((List Int) × Unit))) (κ0 : ((Int × Int × Unit) × ((List Int) × Unit)) → Option R) (κ1 : ((Int × Unit) × ((List Int) × Unit)) → Option R) : Option R := C_62_12 (p_89 N) rec x κ0 κ1
def l_62_12 {R : Type} (N : Nat) : Nat → ((Int × Unit × Int × Int × Unit) × ((List Int) × Unit)) → (((Int × Int × Unit) × ((List Int) × Unit)) → Option R) → (((Int × Unit) × ((List Int) × Unit)) → Option R) → Option R
  | 0, _, _, _ => none
  | n + 1, x, κ0, κ1 => B_62_12 N (fun y => l_62_12 N n y κ0 κ1) x κ0 κ1
def Q_62 {R : Type} (q_88 : Tp_88 R) (q_89 : Tp_89 R) (m_62_3 : Tl_62_3 R) (m_62_12 : Tl_62_12 R) (x : (Unit × Unit) × ((List Int) × Unit)) (κ0 : ((Int × (Int × Unit)) × ((List Int) × Unit)) → Option R) : Option R :=
let l1431 := x.2.1
let i1432 : Int := (((List.length l1431) : Nat) : Int)
m_62_3 (((), 1, false, (), i1432, 0, ()), (l1431, ())) (fun y1443 =>
let i1444 := y1443.1.1
let i1445 := y1443.1.2.1
let l1446 := y1443.2.1
κ0 ((i1444, (i1445, ())), (l1446, ()))) (fun y1447 =>
let i1448 := y1447.1.2.1
let b1449 := y1447.1.2.2.1
let l1450 := y1447.2.1
bif b1449 then (
κ0 ((0, (0, ())), (l1450, ()))) else (
let i1451 : Int := (((List.length l1450) : Nat) : Int)
m_62_12 ((i1448, (), i1451, 0, ()), (l1450, ())) (fun y1464 =>
let i1465 := y1464.1.1
let i1466 := y1464.1.2.1
let l1467 := y1464.2.1
κ0 ((i1465, (i1466, ())), (l1467, ()))) (fun y1468 =>
let i1469 := y1468.1.1
let l1470 := y1468.2.1
κ0 ((i1469, (0, ())), (l1470, ())))))
def p_62 {R : Type} (N : Nat) (x : (Unit × Unit) × ((List Int) × Unit)) (κ0 : ((Int × (Int × Unit)) × ((List Int) × Unit)) → Option R) : Option R := Q_62 (p_88 N) (p_89 N) (l_62_3 N N) (l_62_12 N N) x κ0
def EG_62 {R : Type} (q_88 : Tp_88 R) (q_89 : Tp_89 R) : Env R := ((Env.base QQ LN AA).add 88 ap_88 hp_88 (fun (x : aden ap_88 × hden hp_88) k => q_88 x (fun y => k (Pat.inst (.bool) y) (instH hp_88 x.2)))).add 89 ap_89 hp_89 (fun (x : aden ap_89 × hden hp_89) k => q_89 x (fun y => k (Pat.inst (.tup (.fcons (.int .u64) (.fcons (.int .u64) (.fnil)))) y) (instH hp_89 x.2)))
def LG_62 {R : Type} (m_62_3 : Tl_62_3 R) (m_62_12 : Tl_62_12 R) : Loops R := ((Loops.none).add 3 (loopBy 1 lv_62_3 pt_62_3 (fun x k => m_62_3 x (fun y => k .ret (px_62_3_0.inst y)) (fun y => k (.exit 0) (px_62_3_1.inst y))))).add 12 (loopBy 1 lv_62_12 pt_62_12 (fun x k => m_62_12 x (fun y => k .ret (px_62_12_0.inst y)) (fun y => k (.exit 2) (px_62_12_1.inst y))))
def E_62 {R : Type} (N : Nat) : Env R := EG_62 (p_88 N) (p_89 N)
theorem eok_62 {R : Type} (N : Nat) : EK Try.prog (E_62 (R := R) N) := ek_add (ek_add (ek_base _ _ _) (good_88 N)) (good_89 N)
def L_62 {R : Type} (N : Nat) : Loops R := LG_62 (l_62_3 N N) (l_62_12 N N)
theorem gstep_62_3 {R : Type} (q_88 : Tp_88 R) (q_89 : Tp_89 R) (m_62_3 : Tl_62_3 R) (m_62_12 : Tl_62_12 R) (n : Nat) (x : pt_62_3.den) (k : Exit → St → Option R) : iter 1 lv_62_3 lo_62_3 (aexec TT (EG_62 q_88 q_89) (drawAny TT WW) (LG_62 m_62_3 m_62_12) (loopAt 3 (bodyOf Try.f62))) (n + 1) (pt_62_3.inst x) k = C_62_3 q_88 (fun y => iter 1 lv_62_3 lo_62_3 (aexec TT (EG_62 q_88 q_89) (drawAny TT WW) (LG_62 m_62_3 m_62_12) (loopAt 3 (bodyOf Try.f62))) n (pt_62_3.inst y) k) x (fun y => k .ret (px_62_3_0.inst y)) (fun y => k (.exit 0) (px_62_3_1.inst y)) := by kernel_rfl
theorem step_62_3 {R : Type} (N n : Nat) (x : pt_62_3.den) (k : Exit → St → Option R) : iter 1 lv_62_3 lo_62_3 (aexec TT (E_62 (R := R) N) (drawAny TT WW) (L_62 N) (loopAt 3 (bodyOf Try.f62))) (n + 1) (pt_62_3.inst x) k = B_62_3 N (fun y => iter 1 lv_62_3 lo_62_3 (aexec TT (E_62 (R := R) N) (drawAny TT WW) (L_62 N) (loopAt 3 (bodyOf Try.f62))) n (pt_62_3.inst y) k) x (fun y => k .ret (px_62_3_0.inst y)) (fun y => k (.exit 0) (px_62_3_1.inst y)) := (gstep_62_3 (p_88 N) (p_89 N) (l_62_3 N N) (l_62_12 N N) n x k).trans (by kernel_rfl)
theorem eq_62_3 {R : Type} (N : Nat) : ∀ (n : Nat) (x : pt_62_3.den) (k : Exit → St → Option R), iter 1 lv_62_3 lo_62_3 (aexec TT (E_62 (R := R) N) (drawAny TT WW) (L_62 N) (loopAt 3 (bodyOf Try.f62))) n (pt_62_3.inst x) k = l_62_3 N n x (fun y => k .ret (px_62_3_0.inst y)) (fun y => k (.exit 0) (px_62_3_1.inst y)) :=
  iter_eq (K := Exit → St → Option R) (ks := fun k => k) (l := fun n (x : pt_62_3.den) k => l_62_3 N n x (fun y => k .ret (px_62_3_0.inst y)) (fun y => k (.exit 0) (px_62_3_1.inst y))) (B := fun (rec : pt_62_3.den → Option R) (x : pt_62_3.den) k => B_62_3 N rec x (fun y => k .ret (px_62_3_0.inst y)) (fun y => k (.exit 0) (px_62_3_1.inst y))) (fun _ _ => rfl) (fun _ _ _ => rfl) (fun n x k => step_62_3 N n x k)
theorem rounds_62_3 {R : Type} (N : Nat) : Rounds 1 TT (E_62 (R := R) N) (drawAny TT WW) (L_62 N) 3 (loopAt 3 (bodyOf Try.f62)) :=
  rounds_of (p := pt_62_3) (l := fun (x : pt_62_3.den) k => l_62_3 N N x (fun y => k .ret (px_62_3_0.inst y)) (fun y => k (.exit 0) (px_62_3_1.inst y))) (fun s k => rfl) (fun x k => eq_62_3 N N x k)
theorem gstep_62_12 {R : Type} (q_88 : Tp_88 R) (q_89 : Tp_89 R) (m_62_3 : Tl_62_3 R) (m_62_12 : Tl_62_12 R) (n : Nat) (x : pt_62_12.den) (k : Exit → St → Option R) : iter 1 lv_62_12 lo_62_12 (aexec TT (EG_62 q_88 q_89) (drawAny TT WW) (LG_62 m_62_3 m_62_12) (loopAt 12 (bodyOf Try.f62))) (n + 1) (pt_62_12.inst x) k = C_62_12 q_89 (fun y => iter 1 lv_62_12 lo_62_12 (aexec TT (EG_62 q_88 q_89) (drawAny TT WW) (LG_62 m_62_3 m_62_12) (loopAt 12 (bodyOf Try.f62))) n (pt_62_12.inst y) k) x (fun y => k .ret (px_62_12_0.inst y)) (fun y => k (.exit 2) (px_62_12_1.inst y)) := by kernel_rfl
theorem step_62_12 {R : Type} (N n : Nat) (x : pt_62_12.den) (k : Exit → St → Option R) : iter 1 lv_62_12 lo_62_12 (aexec TT (E_62 (R := R) N) (drawAny TT WW) (L_62 N) (loopAt 12 (bodyOf Try.f62))) (n + 1) (pt_62_12.inst x) k = B_62_12 N (fun y => iter 1 lv_62_12 lo_62_12 (aexec TT (E_62 (R := R) N) (drawAny TT WW) (L_62 N) (loopAt 12 (bodyOf Try.f62))) n (pt_62_12.inst y) k) x (fun y => k .ret (px_62_12_0.inst y)) (fun y => k (.exit 2) (px_62_12_1.inst y)) := (gstep_62_12 (p_88 N) (p_89 N) (l_62_3 N N) (l_62_12 N N) n x k).trans (by kernel_rfl)
theorem eq_62_12 {R : Type} (N : Nat) : ∀ (n : Nat) (x : pt_62_12.den) (k : Exit → St → Option R), iter 1 lv_62_12 lo_62_12 (aexec TT (E_62 (R := R) N) (drawAny TT WW) (L_62 N) (loopAt 12 (bodyOf Try.f62))) n (pt_62_12.inst x) k = l_62_12 N n x (fun y => k .ret (px_62_12_0.inst y)) (fun y => k (.exit 2) (px_62_12_1.inst y)) :=
  iter_eq (K := Exit → St → Option R) (ks := fun k => k) (l := fun n (x : pt_62_12.den) k => l_62_12 N n x (fun y => k .ret (px_62_12_0.inst y)) (fun y => k (.exit 2) (px_62_12_1.inst y))) (B := fun (rec : pt_62_12.den → Option R) (x : pt_62_12.den) k => B_62_12 N rec x (fun y => k .ret (px_62_12_0.inst y)) (fun y => k (.exit 2) (px_62_12_1.inst y))) (fun _ _ => rfl) (fun _ _ _ => rfl) (fun n x k => step_62_12 N n x k)
theorem rounds_62_12 {R : Type} (N : Nat) : Rounds 1 TT (E_62 (R := R) N) (drawAny TT WW) (L_62 N) 12 (loopAt 12 (bodyOf Try.f62)) :=
  rounds_of (p := pt_62_12) (l := fun (x : pt_62_12.den) k => l_62_12 N N x (fun y => k .ret (px_62_12_0.inst y)) (fun y => k (.exit 2) (px_62_12_1.inst y))) (fun s k => rfl) (fun x k => eq_62_12 N N x k)
theorem loops_62 : loopsIn (bodyOf Try.f62) = [(3, loopAt 3 (bodyOf Try.f62)), (12, loopAt 12 (bodyOf Try.f62))] := by kernel_rfl
theorem lok_62 {R : Type} (N : Nat) : LOK 1 TT (E_62 (R := R) N) (drawAny TT WW) (L_62 N) (bodyOf Try.f62) := loops_all loops_62 (by
  simp only [List.forall_mem_cons, List.not_mem_nil, false_implies, implies_true, and_true]
  exact ⟨rounds_62_3 N, rounds_62_12 N⟩)
theorem grun_62 {R : Type} (q_88 : Tp_88 R) (q_89 : Tp_89 R) (m_62_3 : Tl_62_3 R) (m_62_12 : Tl_62_12 R) (x : aden ap_62 × hden hp_62) (k : KF R) : fnrun TT (EG_62 q_88 q_89) (drawAny TT WW) (LG_62 m_62_3 m_62_12) true Try.f62 (instA ap_62 x.1) (instH hp_62 x.2) k = Q_62 q_88 q_89 m_62_3 m_62_12 x (fun y => k (Pat.inst (.tup (.fcons (.int .i64) (.fcons (.int .i64) (.fnil)))) y.1) (instH [some (.lst (.int .i64), 3)] y.2)) := by kernel_rfl
theorem run_62 {R : Type} (N : Nat) (x : aden ap_62 × hden hp_62) (k : KF R) : fnrun TT (E_62 (R := R) N) (drawAny TT WW) (L_62 N) true Try.f62 (instA ap_62 x.1) (instH hp_62 x.2) k = p_62 N x (fun y => k (Pat.inst (.tup (.fcons (.int .i64) (.fcons (.int .i64) (.fnil)))) y.1) (instH [some (.lst (.int .i64), 3)] y.2)) := (grun_62 (p_88 N) (p_89 N) (l_62_3 N N) (l_62_12 N N) x k).trans (by kernel_rfl)
theorem good_62 {R : Type} (N : Nat) : GD (X := R) Try.prog QQ AA 62 ap_62 hp_62 (fun (x : aden ap_62 × hden hp_62) k => p_62 N x (fun y => k (Pat.inst (.tup (.fcons (.int .i64) (.fcons (.int .i64) (.fnil)))) y.1) (instH [some (.lst (.int .i64), 3)] y.2))) :=
  gd_loud (E := E_62 N) (p := fun (x : aden ap_62 × hden hp_62) k => p_62 N x (fun y => k (Pat.inst (.tup (.fcons (.int .i64) (.fcons (.int .i64) (.fnil)))) y.1) (instH [some (.lst (.int .i64), 3)] y.2))) mixed tyok (eok_62 N) Try.func62 (by kernel_rfl) (by kernel_rfl) (by kernel_rfl) (by kernel_rfl) (lok_62 N) (fun x k => run_62 N x k)

def ap_23 : List Pat := [.node (.fcons (.int .i64) (.fcons (.int .i64) (.fcons (.int .i64) (.fcons (.int .i64) (.fcons (.int .i64) (.fcons (.int .i64) (.fcons (.int .i64) (.fcons (.int .i64) (.fnil)))))))))]
def hp_23 : List (Option (Pat × Nat)) := []
abbrev Tp_23 (R : Type) : Type := (Y0 × Unit) × (Unit) → ((Int × (Int × Unit)) → Option R) → Option R
def Q_23 {R : Type} (q_62 : Tp_62 R) (x : (Y0 × Unit) × (Unit)) (κ0 : (Int × (Int × Unit)) → Option R) : Option R :=
let i1422 := x.1.1.1
let i1423 := x.1.1.2.1
let i1424 := x.1.1.2.2.1
let i1425 := x.1.1.2.2.2.1
let i1426 := x.1.1.2.2.2.2.1
let i1427 := x.1.1.2.2.2.2.2.1
let i1428 := x.1.1.2.2.2.2.2.2.1
let i1429 := x.1.1.2.2.2.2.2.2.2.1
let l1430 : (List Int) := [i1423, i1426]
q_62 (((), ()), (l1430, ())) (fun y1471 =>
let i1472 := y1471.1.1
let i1473 := y1471.1.2.1
let l1474 := y1471.2.1
bif (i1473 != 0) then (
κ0 ((0, (i1473, ())))) else (
let i1475 : Int := mulA .i64 2 i1424
let i1476 : Int := subA .i64 i1472 i1475
κ0 ((i1476, (0, ())))))
def p_23 {R : Type} (N : Nat) (x : (Y0 × Unit) × (Unit)) (κ0 : (Int × (Int × Unit)) → Option R) : Option R := Q_23 (p_62 N) x κ0
def EG_23 {R : Type} (q_62 : Tp_62 R) : Env R := (Env.base QQ LN AA).add 62 ap_62 hp_62 (fun (x : aden ap_62 × hden hp_62) k => q_62 x (fun y => k (Pat.inst (.tup (.fcons (.int .i64) (.fcons (.int .i64) (.fnil)))) y.1) (instH [some (.lst (.int .i64), 3)] y.2)))
def LG_23 {R : Type} : Loops R := Loops.none
def E_23 {R : Type} (N : Nat) : Env R := EG_23 (p_62 N)
theorem eok_23 {R : Type} (N : Nat) : EK Try.prog (E_23 (R := R) N) := ek_add (ek_base _ _ _) (good_62 N)
def L_23 {R : Type} (N : Nat) : Loops R := LG_23
theorem lok_23 {R : Type} (N : Nat) : LOK 0 TT (E_23 (R := R) N) (drawAny TT WW) (L_23 N) (bodyOf Try.f23) := loops_nil (by kernel_rfl)
theorem grun_23 {R : Type} (q_62 : Tp_62 R) (x : aden ap_23 × hden hp_23) (k : KF R) : fnrun TT (EG_23 q_62) (drawAny TT WW) (LG_23) true Try.f23 (instA ap_23 x.1) (instH hp_23 x.2) k = Q_23 q_62 x (fun y => k (Pat.inst (.tup (.fcons (.int .i64) (.fcons (.int .i64) (.fnil)))) y) (instH hp_23 x.2)) := by kernel_rfl
theorem run_23 {R : Type} (N : Nat) (x : aden ap_23 × hden hp_23) (k : KF R) : fnrun TT (E_23 (R := R) N) (drawAny TT WW) (L_23 N) true Try.f23 (instA ap_23 x.1) (instH hp_23 x.2) k = p_23 N x (fun y => k (Pat.inst (.tup (.fcons (.int .i64) (.fcons (.int .i64) (.fnil)))) y) (instH hp_23 x.2)) := (grun_23 (p_62 N) x k).trans (by kernel_rfl)
theorem good_23 {R : Type} (N : Nat) : GD (X := R) Try.prog QQ AA 23 ap_23 hp_23 (fun (x : aden ap_23 × hden hp_23) k => p_23 N x (fun y => k (Pat.inst (.tup (.fcons (.int .i64) (.fcons (.int .i64) (.fnil)))) y) (instH hp_23 x.2))) :=
  gd_quiet (E := E_23 N) (p := fun (x : aden ap_23 × hden hp_23) κ => p_23 N x (fun y => κ (Pat.inst (.tup (.fcons (.int .i64) (.fcons (.int .i64) (.fnil)))) y))) mixed tyok (eok_23 N) Try.func23 (by kernel_rfl) (by kernel_rfl) (lok_23 N) (fun x k => run_23 N x k)

def ap_24_v1 : List Pat := [.ptr 0 []]
def hp_24_v1 : List (Option (Pat × Nat)) := J0
abbrev Tp_24_v1 (R : Type) : Type := (Unit × Unit) × Y1 → (Bool → Option R) → Option R
def Q_24_v1 {R : Type} (x : (Unit × Unit) × Y1) (κ0 : Bool → Option R) : Option R :=
let i1573 := x.2.1.2.1
let i1574 := x.2.1.2.2.1.1
let i1575 := x.2.1.2.2.1.2.1
let i1576 := x.2.1.2.2.2.1
let i1577 := x.2.1.2.2.2.2.2.1.1.1
let i1578 := x.2.1.2.2.2.2.2.1.1.2.1
let i1579 := x.2.1.2.2.2.2.2.1.2.1.1
let i1580 := x.2.1.2.2.2.2.2.1.2.1.2.1
let i1581 := x.2.1.2.2.2.2.2.1.2.2.1.1
let i1582 := x.2.1.2.2.2.2.2.1.2.2.1.2.1
let b1583 := x.2.1.2.2.2.2.2.2.1
let b1584 := x.2.1.2.2.2.2.2.2.2.1
let b1585 := x.2.1.2.2.2.2.2.2.2.2.1
let i1586 := x.2.2.1.2.1.1
let i1587 := x.2.2.1.2.1.2.1
let i1588 := x.2.2.1.2.1.2.2.1
let i1589 := x.2.2.1.2.1.2.2.2.1
let i1590 := x.2.2.1.2.1.2.2.2.2.1
let i1591 := x.2.2.1.2.1.2.2.2.2.2.1
let i1592 := x.2.2.1.2.1.2.2.2.2.2.2.1
let i1593 := x.2.2.1.2.1.2.2.2.2.2.2.2.1
let b1594 := x.2.2.2.1.2.2.1
let i1595 := x.2.2.2.2.1.1
let i1596 := x.2.2.2.2.1.2.1
let i1597 := x.2.2.2.2.1.2.2.1
let i1598 := x.2.2.2.2.1.2.2.2.1
let l1599 := x.2.2.2.2.2.1
let i1600 := x.2.2.2.2.2.2.1.1.1
let i1601 := x.2.2.2.2.2.2.1.1.2.1
let i1602 := x.2.2.2.2.2.2.1.1.2.2.1
let i1603 := x.2.2.2.2.2.2.1.1.2.2.2.1
let i1604 := x.2.2.2.2.2.2.1.1.2.2.2.2.1
let i1605 := x.2.2.2.2.2.2.1.1.2.2.2.2.2.1
let i1606 := x.2.2.2.2.2.2.1.1.2.2.2.2.2.2.1
let i1607 := x.2.2.2.2.2.2.1.1.2.2.2.2.2.2.2.1
let i1608 := x.2.2.2.2.2.2.1.2.1.1
let i1609 := x.2.2.2.2.2.2.1.2.1.2.1
let i1610 := x.2.2.2.2.2.2.1.2.2.1
let i1611 := x.2.2.2.2.2.2.1.2.2.2.1
let a1612 := x.2.2.2.2.2.2.1.2.2.2.2.1
κ0 b1585
def p_24_v1 {R : Type} (N : Nat) (x : (Unit × Unit) × Y1) (κ0 : Bool → Option R) : Option R := Q_24_v1 x κ0
def EG_24_v1 {R : Type} : Env R := Env.base QQ LN AA
def LG_24_v1 {R : Type} : Loops R := Loops.none
def E_24_v1 {R : Type} (N : Nat) : Env R := EG_24_v1
theorem eok_24_v1 {R : Type} (N : Nat) : EK Try.prog (E_24_v1 (R := R) N) := ek_base _ _ _
def L_24_v1 {R : Type} (N : Nat) : Loops R := LG_24_v1
theorem lok_24_v1 {R : Type} (N : Nat) : LOK 6 TT (E_24_v1 (R := R) N) (drawAny TT WW) (L_24_v1 N) (bodyOf Try.f24) := loops_nil (by kernel_rfl)
theorem grun_24_v1 {R : Type} (x : aden ap_24_v1 × hden hp_24_v1) (k : KF R) : fnrun TT (EG_24_v1) (drawAny TT WW) (LG_24_v1) true Try.f24 (instA ap_24_v1 x.1) (instH hp_24_v1 x.2) k = Q_24_v1 x (fun y => k (Pat.inst (.bool) y) (instH hp_24_v1 x.2)) := by kernel_rfl
theorem run_24_v1 {R : Type} (N : Nat) (x : aden ap_24_v1 × hden hp_24_v1) (k : KF R) : fnrun TT (E_24_v1 (R := R) N) (drawAny TT WW) (L_24_v1 N) true Try.f24 (instA ap_24_v1 x.1) (instH hp_24_v1 x.2) k = p_24_v1 N x (fun y => k (Pat.inst (.bool) y) (instH hp_24_v1 x.2)) := (grun_24_v1 x k).trans (by kernel_rfl)
theorem good_24_v1 {R : Type} (N : Nat) : GD (X := R) Try.prog QQ AA 24 ap_24_v1 hp_24_v1 (fun (x : aden ap_24_v1 × hden hp_24_v1) k => p_24_v1 N x (fun y => k (Pat.inst (.bool) y) (instH hp_24_v1 x.2))) :=
  gd_quiet (E := E_24_v1 N) (p := fun (x : aden ap_24_v1 × hden hp_24_v1) κ => p_24_v1 N x (fun y => κ (Pat.inst (.bool) y))) mixed tyok (eok_24_v1 N) Try.func24 (by kernel_rfl) (by kernel_rfl) (lok_24_v1 N) (fun x k => run_24_v1 N x k)

def ap_25 : List Pat := [.ptr 0 []]
def hp_25 : List (Option (Pat × Nat)) := J0
abbrev Tp_25 (R : Type) : Type := (Unit × Unit) × Y1 → (Bool → Option R) → Option R
def Q_25 {R : Type} (x : (Unit × Unit) × Y1) (κ0 : Bool → Option R) : Option R :=
let i1618 := x.2.1.2.1
let i1619 := x.2.1.2.2.1.1
let i1620 := x.2.1.2.2.1.2.1
let i1621 := x.2.1.2.2.2.1
let i1622 := x.2.1.2.2.2.2.2.1.1.1
let i1623 := x.2.1.2.2.2.2.2.1.1.2.1
let i1624 := x.2.1.2.2.2.2.2.1.2.1.1
let i1625 := x.2.1.2.2.2.2.2.1.2.1.2.1
let i1626 := x.2.1.2.2.2.2.2.1.2.2.1.1
let i1627 := x.2.1.2.2.2.2.2.1.2.2.1.2.1
let b1628 := x.2.1.2.2.2.2.2.2.1
let b1629 := x.2.1.2.2.2.2.2.2.2.1
let b1630 := x.2.1.2.2.2.2.2.2.2.2.1
let i1631 := x.2.2.1.2.1.1
let i1632 := x.2.2.1.2.1.2.1
let i1633 := x.2.2.1.2.1.2.2.1
let i1634 := x.2.2.1.2.1.2.2.2.1
let i1635 := x.2.2.1.2.1.2.2.2.2.1
let i1636 := x.2.2.1.2.1.2.2.2.2.2.1
let i1637 := x.2.2.1.2.1.2.2.2.2.2.2.1
let i1638 := x.2.2.1.2.1.2.2.2.2.2.2.2.1
let b1639 := x.2.2.2.1.2.2.1
let i1640 := x.2.2.2.2.1.1
let i1641 := x.2.2.2.2.1.2.1
let i1642 := x.2.2.2.2.1.2.2.1
let i1643 := x.2.2.2.2.1.2.2.2.1
let l1644 := x.2.2.2.2.2.1
let i1645 := x.2.2.2.2.2.2.1.1.1
let i1646 := x.2.2.2.2.2.2.1.1.2.1
let i1647 := x.2.2.2.2.2.2.1.1.2.2.1
let i1648 := x.2.2.2.2.2.2.1.1.2.2.2.1
let i1649 := x.2.2.2.2.2.2.1.1.2.2.2.2.1
let i1650 := x.2.2.2.2.2.2.1.1.2.2.2.2.2.1
let i1651 := x.2.2.2.2.2.2.1.1.2.2.2.2.2.2.1
let i1652 := x.2.2.2.2.2.2.1.1.2.2.2.2.2.2.2.1
let i1653 := x.2.2.2.2.2.2.1.2.1.1
let i1654 := x.2.2.2.2.2.2.1.2.1.2.1
let i1655 := x.2.2.2.2.2.2.1.2.2.1
let i1656 := x.2.2.2.2.2.2.1.2.2.2.1
let a1657 := x.2.2.2.2.2.2.1.2.2.2.2.1
bif b1629 then (
κ0 ((!b1630))) else (
κ0 false)
def p_25 {R : Type} (N : Nat) (x : (Unit × Unit) × Y1) (κ0 : Bool → Option R) : Option R := Q_25 x κ0
def EG_25 {R : Type} : Env R := Env.base QQ LN AA
def LG_25 {R : Type} : Loops R := Loops.none
def E_25 {R : Type} (N : Nat) : Env R := EG_25
theorem eok_25 {R : Type} (N : Nat) : EK Try.prog (E_25 (R := R) N) := ek_base _ _ _
def L_25 {R : Type} (N : Nat) : Loops R := LG_25
theorem lok_25 {R : Type} (N : Nat) : LOK 6 TT (E_25 (R := R) N) (drawAny TT WW) (L_25 N) (bodyOf Try.f25) := loops_nil (by kernel_rfl)
theorem grun_25 {R : Type} (x : aden ap_25 × hden hp_25) (k : KF R) : fnrun TT (EG_25) (drawAny TT WW) (LG_25) true Try.f25 (instA ap_25 x.1) (instH hp_25 x.2) k = Q_25 x (fun y => k (Pat.inst (.bool) y) (instH hp_25 x.2)) := by kernel_rfl
theorem run_25 {R : Type} (N : Nat) (x : aden ap_25 × hden hp_25) (k : KF R) : fnrun TT (E_25 (R := R) N) (drawAny TT WW) (L_25 N) true Try.f25 (instA ap_25 x.1) (instH hp_25 x.2) k = p_25 N x (fun y => k (Pat.inst (.bool) y) (instH hp_25 x.2)) := (grun_25 x k).trans (by kernel_rfl)
theorem good_25 {R : Type} (N : Nat) : GD (X := R) Try.prog QQ AA 25 ap_25 hp_25 (fun (x : aden ap_25 × hden hp_25) k => p_25 N x (fun y => k (Pat.inst (.bool) y) (instH hp_25 x.2))) :=
  gd_quiet (E := E_25 N) (p := fun (x : aden ap_25 × hden hp_25) κ => p_25 N x (fun y => κ (Pat.inst (.bool) y))) mixed tyok (eok_25 N) Try.func25 (by kernel_rfl) (by kernel_rfl) (lok_25 N) (fun x k => run_25 N x k)

def ap_41 : List Pat := [.node (.fcons (.int .i64) (.fcons (.int .i64) (.fcons (.int .i64) (.fcons (.int .i64) (.fcons (.int .i64) (.fcons (.int .i64) (.fcons (.int .i64) (.fcons (.int .i64) (.fnil))))))))), .node (.fcons (.int .i64) (.fcons (.int .i64) (.fnil)))]
def hp_41 : List (Option (Pat × Nat)) := []
abbrev Tp_41 (R : Type) : Type := (Y0 × (Int × (Int × Unit)) × Unit) × (Unit) → (((Int × (Int × Unit)) × (Bool × Unit)) → Option R) → Option R
def Q_41 {R : Type} (x : (Y0 × (Int × (Int × Unit)) × Unit) × (Unit)) (κ0 : ((Int × (Int × Unit)) × (Bool × Unit)) → Option R) : Option R :=
let i1702 := x.1.1.1
let i1703 := x.1.1.2.1
let i1704 := x.1.1.2.2.1
let i1705 := x.1.1.2.2.2.1
let i1706 := x.1.1.2.2.2.2.1
let i1707 := x.1.1.2.2.2.2.2.1
let i1708 := x.1.1.2.2.2.2.2.2.1
let i1709 := x.1.1.2.2.2.2.2.2.2.1
let i1710 := x.1.2.1.1
let i1711 := x.1.2.1.2.1
let i1712 : Int := addA .i64 i1711 1
bif (decide (i1712 < 4)) then (
let i1713 : Int := addA .i64 i1711 1
κ0 (((i1710, (i1713, ())), (true, ())))) else (
let i1714 : Int := subA .i64 i1703 1
bif (decide (i1710 < i1714)) then (
let i1715 : Int := addA .i64 i1710 1
κ0 (((i1715, (0, ())), (true, ())))) else (
κ0 (((0, (0, ())), (false, ())))))
def p_41 {R : Type} (N : Nat) (x : (Y0 × (Int × (Int × Unit)) × Unit) × (Unit)) (κ0 : ((Int × (Int × Unit)) × (Bool × Unit)) → Option R) : Option R := Q_41 x κ0
def EG_41 {R : Type} : Env R := Env.base QQ LN AA
def LG_41 {R : Type} : Loops R := Loops.none
def E_41 {R : Type} (N : Nat) : Env R := EG_41
theorem eok_41 {R : Type} (N : Nat) : EK Try.prog (E_41 (R := R) N) := ek_base _ _ _
def L_41 {R : Type} (N : Nat) : Loops R := LG_41
theorem lok_41 {R : Type} (N : Nat) : LOK 0 TT (E_41 (R := R) N) (drawAny TT WW) (L_41 N) (bodyOf Try.f41) := loops_nil (by kernel_rfl)
theorem grun_41 {R : Type} (x : aden ap_41 × hden hp_41) (k : KF R) : fnrun TT (EG_41) (drawAny TT WW) (LG_41) true Try.f41 (instA ap_41 x.1) (instH hp_41 x.2) k = Q_41 x (fun y => k (Pat.inst (.tup (.fcons Z1 (.fcons (.bool) (.fnil)))) y) (instH hp_41 x.2)) := by kernel_rfl
theorem run_41 {R : Type} (N : Nat) (x : aden ap_41 × hden hp_41) (k : KF R) : fnrun TT (E_41 (R := R) N) (drawAny TT WW) (L_41 N) true Try.f41 (instA ap_41 x.1) (instH hp_41 x.2) k = p_41 N x (fun y => k (Pat.inst (.tup (.fcons Z1 (.fcons (.bool) (.fnil)))) y) (instH hp_41 x.2)) := (grun_41 x k).trans (by kernel_rfl)
theorem good_41 {R : Type} (N : Nat) : GD (X := R) Try.prog QQ AA 41 ap_41 hp_41 (fun (x : aden ap_41 × hden hp_41) k => p_41 N x (fun y => k (Pat.inst (.tup (.fcons Z1 (.fcons (.bool) (.fnil)))) y) (instH hp_41 x.2))) :=
  gd_quiet (E := E_41 N) (p := fun (x : aden ap_41 × hden hp_41) κ => p_41 N x (fun y => κ (Pat.inst (.tup (.fcons Z1 (.fcons (.bool) (.fnil)))) y))) mixed tyok (eok_41 N) Try.func41 (by kernel_rfl) (by kernel_rfl) (lok_41 N) (fun x k => run_41 N x k)

def ap_61_v1 : List Pat := [.ptr 0 [], .node (.fcons (.int .i64) (.fcons (.int .i64) (.fnil)))]
def hp_61_v1 : List (Option (Pat × Nat)) := J0
abbrev Tp_61_v1 (R : Type) : Type := (Unit × (Int × (Int × Unit)) × Unit) × Y1 → ((Unit × (Y3 × (Unit × (Y0 × Unit)) × Y5 × Y2 × (List (Nat → Int)) × Y4 × Y4 × Unit)) → Option R) → Option R
def Q_61_v1 {R : Type} (q_30 : Tp_30 R) (q_33 : Tp_33 R) (x : (Unit × (Int × (Int × Unit)) × Unit) × Y1) (κ0 : (Unit × (Y3 × (Unit × (Y0 × Unit)) × Y5 × Y2 × (List (Nat → Int)) × Y4 × Y4 × Unit)) → Option R) : Option R :=
let i1720 := x.1.2.1.1
let i1721 := x.1.2.1.2.1
let i1722 := x.2.1.2.1
let i1723 := x.2.1.2.2.1.1
let i1724 := x.2.1.2.2.1.2.1
let i1725 := x.2.1.2.2.2.1
let i1726 := x.2.1.2.2.2.2.2.1.1.1
let i1727 := x.2.1.2.2.2.2.2.1.1.2.1
let i1728 := x.2.1.2.2.2.2.2.1.2.1.1
let i1729 := x.2.1.2.2.2.2.2.1.2.1.2.1
let i1730 := x.2.1.2.2.2.2.2.1.2.2.1.1
let i1731 := x.2.1.2.2.2.2.2.1.2.2.1.2.1
let b1732 := x.2.1.2.2.2.2.2.2.1
let b1733 := x.2.1.2.2.2.2.2.2.2.1
let b1734 := x.2.1.2.2.2.2.2.2.2.2.1
let i1735 := x.2.2.1.2.1.1
let i1736 := x.2.2.1.2.1.2.1
let i1737 := x.2.2.1.2.1.2.2.1
let i1738 := x.2.2.1.2.1.2.2.2.1
let i1739 := x.2.2.1.2.1.2.2.2.2.1
let i1740 := x.2.2.1.2.1.2.2.2.2.2.1
let i1741 := x.2.2.1.2.1.2.2.2.2.2.2.1
let i1742 := x.2.2.1.2.1.2.2.2.2.2.2.2.1
let b1743 := x.2.2.2.1.2.2.1
let i1744 := x.2.2.2.2.1.1
let i1745 := x.2.2.2.2.1.2.1
let i1746 := x.2.2.2.2.1.2.2.1
let i1747 := x.2.2.2.2.1.2.2.2.1
let l1748 := x.2.2.2.2.2.1
let i1749 := x.2.2.2.2.2.2.1.1.1
let i1750 := x.2.2.2.2.2.2.1.1.2.1
let i1751 := x.2.2.2.2.2.2.1.1.2.2.1
let i1752 := x.2.2.2.2.2.2.1.1.2.2.2.1
let i1753 := x.2.2.2.2.2.2.1.1.2.2.2.2.1
let i1754 := x.2.2.2.2.2.2.1.1.2.2.2.2.2.1
let i1755 := x.2.2.2.2.2.2.1.1.2.2.2.2.2.2.1
let i1756 := x.2.2.2.2.2.2.1.1.2.2.2.2.2.2.2.1
let i1757 := x.2.2.2.2.2.2.1.2.1.1
let i1758 := x.2.2.2.2.2.2.1.2.1.2.1
let i1759 := x.2.2.2.2.2.2.1.2.2.1
let i1760 := x.2.2.2.2.2.2.1.2.2.2.1
let a1761 := x.2.2.2.2.2.2.1.2.2.2.2.1
q_30 (((i1735, (i1736, (i1737, (i1738, (i1739, (i1740, (i1741, (i1742, ())))))))), i1720, i1721, ()), ()) (fun y1762 =>
let i1763 := y1762
q_33 (((i1735, (i1736, (i1737, (i1738, (i1739, (i1740, (i1741, (i1742, ())))))))), (i1720, (i1721, ())), i1722, ()), ()) (fun y1764 =>
let i1765 := y1764.2.1.1.1
let i1766 := y1764.2.1.1.2.1
let i1767 := y1764.2.1.1.2.2.1
let i1768 := y1764.2.1.1.2.2.2.1
let i1769 := y1764.2.1.1.2.2.2.2.1
let i1770 := y1764.2.1.1.2.2.2.2.2.1
let i1771 := y1764.2.1.1.2.2.2.2.2.2.1
let i1772 := y1764.2.1.1.2.2.2.2.2.2.2.1
let i1773 := y1764.2.1.2.1.1
let i1774 := y1764.2.1.2.1.2.1
let i1775 := y1764.2.1.2.2.1
let i1776 := y1764.2.1.2.2.2.1
let a1777 := y1764.2.1.2.2.2.2.1
κ0 ((), (((), (i1722, ((i1720, (i1721, ())), (i1763, ((), (((i1726, (i1727, ())), ((i1728, (i1729, ())), ((i1730, (i1731, ())), ()))), (false, (false, (b1734, ()))))))))), ((), ((i1735, (i1736, (i1737, (i1738, (i1739, (i1740, (i1741, (i1742, ())))))))), ())), ((), ((), (b1743, ()))), (i1744, (i1745, (i1746, (i1747, ())))), l1748, ((i1749, (i1750, (i1751, (i1752, (i1753, (i1754, (i1755, (i1756, ())))))))), ((i1757, (i1758, ())), (i1759, (i1760, (a1761, ()))))), ((i1765, (i1766, (i1767, (i1768, (i1769, (i1770, (i1771, (i1772, ())))))))), ((i1773, (i1774, ())), (i1775, (i1776, (a1777, ()))))), ()))))
def p_61_v1 {R : Type} (N : Nat) (x : (Unit × (Int × (Int × Unit)) × Unit) × Y1) (κ0 : (Unit × (Y3 × (Unit × (Y0 × Unit)) × Y5 × Y2 × (List (Nat → Int)) × Y4 × Y4 × Unit)) → Option R) : Option R := Q_61_v1 (p_30 N) (p_33 N) x κ0
def EG_61_v1 {R : Type} (q_30 : Tp_30 R) (q_33 : Tp_33 R) : Env R := ((Env.base QQ LN AA).add 30 ap_30 hp_30 (fun (x : aden ap_30 × hden hp_30) k => q_30 x (fun y => k (Pat.inst (.int .i64) y) (instH hp_30 x.2)))).add 33 ap_33 hp_33 (fun (x : aden ap_33 × hden hp_33) k => q_33 x (fun y => k (Pat.inst (.ptr 0 []) y.1) (instH hp_33 x.2 ++ instH [some (Z3, 132)] y.2)))
def LG_61_v1 {R : Type} : Loops R := Loops.none
def E_61_v1 {R : Type} (N : Nat) : Env R := EG_61_v1 (p_30 N) (p_33 N)
theorem eok_61_v1 {R : Type} (N : Nat) : EK Try.prog (E_61_v1 (R := R) N) := ek_add (ek_add (ek_base _ _ _) (good_30 N)) (good_33 N)
def L_61_v1 {R : Type} (N : Nat) : Loops R := LG_61_v1
theorem lok_61_v1 {R : Type} (N : Nat) : LOK 6 TT (E_61_v1 (R := R) N) (drawAny TT WW) (L_61_v1 N) (bodyOf Try.f61) := loops_nil (by kernel_rfl)
theorem grun_61_v1 {R : Type} (q_30 : Tp_30 R) (q_33 : Tp_33 R) (x : aden ap_61_v1 × hden hp_61_v1) (k : KF R) : fnrun TT (EG_61_v1 q_30 q_33) (drawAny TT WW) (LG_61_v1) true Try.f61 (instA ap_61_v1 x.1) (instH hp_61_v1 x.2) k = Q_61_v1 q_30 q_33 x (fun y => k (Pat.inst (.tup (.fnil)) y.1) (instH J2 y.2)) := by kernel_rfl
theorem run_61_v1 {R : Type} (N : Nat) (x : aden ap_61_v1 × hden hp_61_v1) (k : KF R) : fnrun TT (E_61_v1 (R := R) N) (drawAny TT WW) (L_61_v1 N) true Try.f61 (instA ap_61_v1 x.1) (instH hp_61_v1 x.2) k = p_61_v1 N x (fun y => k (Pat.inst (.tup (.fnil)) y.1) (instH J2 y.2)) := (grun_61_v1 (p_30 N) (p_33 N) x k).trans (by kernel_rfl)
theorem good_61_v1 {R : Type} (N : Nat) : GD (X := R) Try.prog QQ AA 61 ap_61_v1 hp_61_v1 (fun (x : aden ap_61_v1 × hden hp_61_v1) k => p_61_v1 N x (fun y => k (Pat.inst (.tup (.fnil)) y.1) (instH J2 y.2))) :=
  gd_loud (E := E_61_v1 N) (p := fun (x : aden ap_61_v1 × hden hp_61_v1) k => p_61_v1 N x (fun y => k (Pat.inst (.tup (.fnil)) y.1) (instH J2 y.2))) mixed tyok (eok_61_v1 N) Try.func61 (by kernel_rfl) (by kernel_rfl) (by kernel_rfl) (by kernel_rfl) (lok_61_v1 N) (fun x k => run_61_v1 N x k)

def ap_26 : List Pat := [.ptr 0 []]
def hp_26 : List (Option (Pat × Nat)) := J0
abbrev Tp_26 (R : Type) : Type := (Unit × Unit) × Y1 → ((Bool × Y1) → Option R) → ((Bool × (Y3 × (Unit × (Y0 × Unit)) × Y5 × Y2 × (List (Nat → Int)) × Y4 × Y4 × Unit)) → Option R) → Option R
def Q_26 {R : Type} (q_25 : Tp_25 R) (q_41 : Tp_41 R) (q_61_v1 : Tp_61_v1 R) (x : (Unit × Unit) × Y1) (κ0 : (Bool × Y1) → Option R) (κ1 : (Bool × (Y3 × (Unit × (Y0 × Unit)) × Y5 × Y2 × (List (Nat → Int)) × Y4 × Y4 × Unit)) → Option R) : Option R :=
let i1660 := x.2.1.2.1
let i1661 := x.2.1.2.2.1.1
let i1662 := x.2.1.2.2.1.2.1
let i1663 := x.2.1.2.2.2.1
let i1664 := x.2.1.2.2.2.2.2.1.1.1
let i1665 := x.2.1.2.2.2.2.2.1.1.2.1
let i1666 := x.2.1.2.2.2.2.2.1.2.1.1
let i1667 := x.2.1.2.2.2.2.2.1.2.1.2.1
let i1668 := x.2.1.2.2.2.2.2.1.2.2.1.1
let i1669 := x.2.1.2.2.2.2.2.1.2.2.1.2.1
let b1670 := x.2.1.2.2.2.2.2.2.1
let b1671 := x.2.1.2.2.2.2.2.2.2.1
let b1672 := x.2.1.2.2.2.2.2.2.2.2.1
let i1673 := x.2.2.1.2.1.1
let i1674 := x.2.2.1.2.1.2.1
let i1675 := x.2.2.1.2.1.2.2.1
let i1676 := x.2.2.1.2.1.2.2.2.1
let i1677 := x.2.2.1.2.1.2.2.2.2.1
let i1678 := x.2.2.1.2.1.2.2.2.2.2.1
let i1679 := x.2.2.1.2.1.2.2.2.2.2.2.1
let i1680 := x.2.2.1.2.1.2.2.2.2.2.2.2.1
let b1681 := x.2.2.2.1.2.2.1
let i1682 := x.2.2.2.2.1.1
let i1683 := x.2.2.2.2.1.2.1
let i1684 := x.2.2.2.2.1.2.2.1
let i1685 := x.2.2.2.2.1.2.2.2.1
let l1686 := x.2.2.2.2.2.1
let i1687 := x.2.2.2.2.2.2.1.1.1
let i1688 := x.2.2.2.2.2.2.1.1.2.1
let i1689 := x.2.2.2.2.2.2.1.1.2.2.1
let i1690 := x.2.2.2.2.2.2.1.1.2.2.2.1
let i1691 := x.2.2.2.2.2.2.1.1.2.2.2.2.1
let i1692 := x.2.2.2.2.2.2.1.1.2.2.2.2.2.1
let i1693 := x.2.2.2.2.2.2.1.1.2.2.2.2.2.2.1
let i1694 := x.2.2.2.2.2.2.1.1.2.2.2.2.2.2.2.1
let i1695 := x.2.2.2.2.2.2.1.2.1.1
let i1696 := x.2.2.2.2.2.2.1.2.1.2.1
let i1697 := x.2.2.2.2.2.2.1.2.2.1
let i1698 := x.2.2.2.2.2.2.1.2.2.2.1
let a1699 := x.2.2.2.2.2.2.1.2.2.2.2.1
q_25 (((), ()), (((), (i1660, ((i1661, (i1662, ())), (i1663, ((), (((i1664, (i1665, ())), ((i1666, (i1667, ())), ((i1668, (i1669, ())), ()))), (b1670, (b1671, (b1672, ()))))))))), ((), ((i1673, (i1674, (i1675, (i1676, (i1677, (i1678, (i1679, (i1680, ())))))))), ())), ((), ((), (b1681, ()))), (i1682, (i1683, (i1684, (i1685, ())))), l1686, ((i1687, (i1688, (i1689, (i1690, (i1691, (i1692, (i1693, (i1694, ())))))))), ((i1695, (i1696, ())), (i1697, (i1698, (a1699, ()))))), ())) (fun y1700 =>
let b1701 : Bool := y1700
bif (!b1701) then (
κ0 (false, (((), (i1660, ((i1661, (i1662, ())), (i1663, ((), (((i1664, (i1665, ())), ((i1666, (i1667, ())), ((i1668, (i1669, ())), ()))), (b1670, (b1671, (b1672, ()))))))))), ((), ((i1673, (i1674, (i1675, (i1676, (i1677, (i1678, (i1679, (i1680, ())))))))), ())), ((), ((), (b1681, ()))), (i1682, (i1683, (i1684, (i1685, ())))), l1686, ((i1687, (i1688, (i1689, (i1690, (i1691, (i1692, (i1693, (i1694, ())))))))), ((i1695, (i1696, ())), (i1697, (i1698, (a1699, ()))))), ()))) else (
q_41 (((i1673, (i1674, (i1675, (i1676, (i1677, (i1678, (i1679, (i1680, ())))))))), (i1661, (i1662, ())), ()), ()) (fun y1716 =>
let i1717 := y1716.1.1
let i1718 := y1716.1.2.1
let b1719 := y1716.2.1
bif (!b1719) then (
κ0 (true, (((), (i1660, ((i1661, (i1662, ())), (i1663, ((), (((i1664, (i1665, ())), ((i1666, (i1667, ())), ((i1668, (i1669, ())), ()))), (b1670, (b1671, (true, ()))))))))), ((), ((i1673, (i1674, (i1675, (i1676, (i1677, (i1678, (i1679, (i1680, ())))))))), ())), ((), ((), (b1681, ()))), (i1682, (i1683, (i1684, (i1685, ())))), l1686, ((i1687, (i1688, (i1689, (i1690, (i1691, (i1692, (i1693, (i1694, ())))))))), ((i1695, (i1696, ())), (i1697, (i1698, (a1699, ()))))), ()))) else (
q_61_v1 (((), (i1717, (i1718, ())), ()), (((), (i1660, ((i1661, (i1662, ())), (i1663, ((), (((i1664, (i1665, ())), ((i1666, (i1667, ())), ((i1668, (i1669, ())), ()))), (b1670, (b1671, (b1672, ()))))))))), ((), ((i1673, (i1674, (i1675, (i1676, (i1677, (i1678, (i1679, (i1680, ())))))))), ())), ((), ((), (b1681, ()))), (i1682, (i1683, (i1684, (i1685, ())))), l1686, ((i1687, (i1688, (i1689, (i1690, (i1691, (i1692, (i1693, (i1694, ())))))))), ((i1695, (i1696, ())), (i1697, (i1698, (a1699, ()))))), ())) (fun y1778 =>
let i1779 := y1778.2.1.2.1
let i1780 := y1778.2.1.2.2.1.1
let i1781 := y1778.2.1.2.2.1.2.1
let i1782 := y1778.2.1.2.2.2.1
let i1783 := y1778.2.1.2.2.2.2.2.1.1.1
let i1784 := y1778.2.1.2.2.2.2.2.1.1.2.1
let i1785 := y1778.2.1.2.2.2.2.2.1.2.1.1
let i1786 := y1778.2.1.2.2.2.2.2.1.2.1.2.1
let i1787 := y1778.2.1.2.2.2.2.2.1.2.2.1.1
let i1788 := y1778.2.1.2.2.2.2.2.1.2.2.1.2.1
let b1789 := y1778.2.1.2.2.2.2.2.2.1
let b1790 := y1778.2.1.2.2.2.2.2.2.2.1
let b1791 := y1778.2.1.2.2.2.2.2.2.2.2.1
let i1792 := y1778.2.2.1.2.1.1
let i1793 := y1778.2.2.1.2.1.2.1
let i1794 := y1778.2.2.1.2.1.2.2.1
let i1795 := y1778.2.2.1.2.1.2.2.2.1
let i1796 := y1778.2.2.1.2.1.2.2.2.2.1
let i1797 := y1778.2.2.1.2.1.2.2.2.2.2.1
let i1798 := y1778.2.2.1.2.1.2.2.2.2.2.2.1
let i1799 := y1778.2.2.1.2.1.2.2.2.2.2.2.2.1
let b1800 := y1778.2.2.2.1.2.2.1
let i1801 := y1778.2.2.2.2.1.1
let i1802 := y1778.2.2.2.2.1.2.1
let i1803 := y1778.2.2.2.2.1.2.2.1
let i1804 := y1778.2.2.2.2.1.2.2.2.1
let l1805 := y1778.2.2.2.2.2.1
let i1806 := y1778.2.2.2.2.2.2.1.1.1
let i1807 := y1778.2.2.2.2.2.2.1.1.2.1
let i1808 := y1778.2.2.2.2.2.2.1.1.2.2.1
let i1809 := y1778.2.2.2.2.2.2.1.1.2.2.2.1
let i1810 := y1778.2.2.2.2.2.2.1.1.2.2.2.2.1
let i1811 := y1778.2.2.2.2.2.2.1.1.2.2.2.2.2.1
let i1812 := y1778.2.2.2.2.2.2.1.1.2.2.2.2.2.2.1
let i1813 := y1778.2.2.2.2.2.2.1.1.2.2.2.2.2.2.2.1
let i1814 := y1778.2.2.2.2.2.2.1.2.1.1
let i1815 := y1778.2.2.2.2.2.2.1.2.1.2.1
let i1816 := y1778.2.2.2.2.2.2.1.2.2.1
let i1817 := y1778.2.2.2.2.2.2.1.2.2.2.1
let a1818 := y1778.2.2.2.2.2.2.1.2.2.2.2.1
let i1819 := y1778.2.2.2.2.2.2.2.1.1.1
let i1820 := y1778.2.2.2.2.2.2.2.1.1.2.1
let i1821 := y1778.2.2.2.2.2.2.2.1.1.2.2.1
let i1822 := y1778.2.2.2.2.2.2.2.1.1.2.2.2.1
let i1823 := y1778.2.2.2.2.2.2.2.1.1.2.2.2.2.1
let i1824 := y1778.2.2.2.2.2.2.2.1.1.2.2.2.2.2.1
let i1825 := y1778.2.2.2.2.2.2.2.1.1.2.2.2.2.2.2.1
let i1826 := y1778.2.2.2.2.2.2.2.1.1.2.2.2.2.2.2.2.1
let i1827 := y1778.2.2.2.2.2.2.2.1.2.1.1
let i1828 := y1778.2.2.2.2.2.2.2.1.2.1.2.1
let i1829 := y1778.2.2.2.2.2.2.2.1.2.2.1
let i1830 := y1778.2.2.2.2.2.2.2.1.2.2.2.1
let a1831 := y1778.2.2.2.2.2.2.2.1.2.2.2.2.1
κ1 (true, (((), (i1779, ((i1780, (i1781, ())), (i1782, ((), (((i1783, (i1784, ())), ((i1785, (i1786, ())), ((i1787, (i1788, ())), ()))), (b1789, (b1790, (b1791, ()))))))))), ((), ((i1792, (i1793, (i1794, (i1795, (i1796, (i1797, (i1798, (i1799, ())))))))), ())), ((), ((), (b1800, ()))), (i1801, (i1802, (i1803, (i1804, ())))), l1805, ((i1806, (i1807, (i1808, (i1809, (i1810, (i1811, (i1812, (i1813, ())))))))), ((i1814, (i1815, ())), (i1816, (i1817, (a1818, ()))))), ((i1819, (i1820, (i1821, (i1822, (i1823, (i1824, (i1825, (i1826, ())))))))), ((i1827, (i1828, ())), (i1829, (i1830, (a1831, ()))))), ())))))))
def p_26 {R : Type} (N : Nat) (x : (Unit × Unit) × Y1) (κ0 : (Bool × Y1) → Option R) (κ1 : (Bool × (Y3 × (Unit × (Y0 × Unit)) × Y5 × Y2 × (List (Nat → Int)) × Y4 × Y4 × Unit)) → Option R) : Option R := Q_26 (p_25 N) (p_41 N) (p_61_v1 N) x κ0 κ1
def EG_26 {R : Type} (q_25 : Tp_25 R) (q_41 : Tp_41 R) (q_61_v1 : Tp_61_v1 R) : Env R := (((Env.base QQ LN AA).add 25 ap_25 hp_25 (fun (x : aden ap_25 × hden hp_25) k => q_25 x (fun y => k (Pat.inst (.bool) y) (instH hp_25 x.2)))).add 41 ap_41 hp_41 (fun (x : aden ap_41 × hden hp_41) k => q_41 x (fun y => k (Pat.inst (.tup (.fcons Z1 (.fcons (.bool) (.fnil)))) y) (instH hp_41 x.2)))).add 61 ap_61_v1 hp_61_v1 (fun (x : aden ap_61_v1 × hden hp_61_v1) k => q_61_v1 x (fun y => k (Pat.inst (.tup (.fnil)) y.1) (instH J2 y.2)))
def LG_26 {R : Type} : Loops R := Loops.none
def E_26 {R : Type} (N : Nat) : Env R := EG_26 (p_25 N) (p_41 N) (p_61_v1 N)
theorem eok_26 {R : Type} (N : Nat) : EK Try.prog (E_26 (R := R) N) := ek_add (ek_add (ek_add (ek_base _ _ _) (good_25 N)) (good_41 N)) (good_61_v1 N)
def L_26 {R : Type} (N : Nat) : Loops R := LG_26
theorem lok_26 {R : Type} (N : Nat) : LOK 6 TT (E_26 (R := R) N) (drawAny TT WW) (L_26 N) (bodyOf Try.f26) := loops_nil (by kernel_rfl)
theorem grun_26 {R : Type} (q_25 : Tp_25 R) (q_41 : Tp_41 R) (q_61_v1 : Tp_61_v1 R) (x : aden ap_26 × hden hp_26) (k : KF R) : fnrun TT (EG_26 q_25 q_41 q_61_v1) (drawAny TT WW) (LG_26) true Try.f26 (instA ap_26 x.1) (instH hp_26 x.2) k = Q_26 q_25 q_41 q_61_v1 x (fun y => k (Pat.inst (.bool) y.1) (instH J0 y.2)) (fun y => k (Pat.inst (.bool) y.1) (instH J2 y.2)) := by kernel_rfl
theorem run_26 {R : Type} (N : Nat) (x : aden ap_26 × hden hp_26) (k : KF R) : fnrun TT (E_26 (R := R) N) (drawAny TT WW) (L_26 N) true Try.f26 (instA ap_26 x.1) (instH hp_26 x.2) k = p_26 N x (fun y => k (Pat.inst (.bool) y.1) (instH J0 y.2)) (fun y => k (Pat.inst (.bool) y.1) (instH J2 y.2)) := (grun_26 (p_25 N) (p_41 N) (p_61_v1 N) x k).trans (by kernel_rfl)
theorem good_26 {R : Type} (N : Nat) : GD (X := R) Try.prog QQ AA 26 ap_26 hp_26 (fun (x : aden ap_26 × hden hp_26) k => p_26 N x (fun y => k (Pat.inst (.bool) y.1) (instH J0 y.2)) (fun y => k (Pat.inst (.bool) y.1) (instH J2 y.2))) :=
  gd_loud (E := E_26 N) (p := fun (x : aden ap_26 × hden hp_26) k => p_26 N x (fun y => k (Pat.inst (.bool) y.1) (instH J0 y.2)) (fun y => k (Pat.inst (.bool) y.1) (instH J2 y.2))) mixed tyok (eok_26 N) Try.func26 (by kernel_rfl) (by kernel_rfl) (by kernel_rfl) (by kernel_rfl) (lok_26 N) (fun x k => run_26 N x k)

def lv_5_12 : Live := [(2, none), (5, none), (6, none), (8, none), (9, none), (11, none)]
def pt_5_12 : SPat := ⟨[(2, .ptr 0 []), (5, .ptr 1 []), (6, .ptr 5 []), (8, .ptr 7 []), (9, .int .i64), (11, .int .i64)], [some (.node (.fcons (.int .i64) (.fcons (.int .i64) (.fcons (.int .i64) (.fcons (.int .i64) (.fcons (.int .i64) (.fnil)))))), 23), some (Z9, 49), some (Z7, 147), some (Z2, 145), some (.lst (.arr 128 (.int .u64)), 29), some (Z6, 123), some (Z3, 132), some (.vec (.int .i64) 4, 65)]⟩
def px_5_12_0 : SPat := ⟨[(4, .bool)], []⟩
def px_5_12_1 : SPat := ⟨[(2, .ptr 0 []), (5, .ptr 1 []), (6, .ptr 5 []), (8, .ptr 7 []), (9, .int .i64)], [some (.node (.fcons (.int .i64) (.fcons (.int .i64) (.fcons (.int .i64) (.fcons (.int .i64) (.fcons (.int .i64) (.fnil)))))), 23), some (Z9, 49), some (Z7, 147), some (Z2, 145), some (.lst (.arr 128 (.int .u64)), 29), some (Z6, 123), some (Z3, 132), some (.vec (.int .i64) 4, 65)]⟩
def lo_5_12 : Exit → Live
  | .ret => [(4, none)]
  | .exit 0 => [(2, none), (5, none), (6, none), (8, none), (9, none)]
  | _ => []
def ap_5 : List Pat := [.node (.fcons (.int .i64) (.fcons (.int .i64) (.fcons (.int .i64) (.fcons (.int .i64) (.fcons (.int .i64) (.fnil)))))), .int .i64]
def hp_5 : List (Option (Pat × Nat)) := []
abbrev Tl_5_12 (R : Type) : Type := ((Unit × Unit × Unit × Unit × Int × Int × Unit) × Y10) → (((Bool × Unit) × (Unit)) → Option R) → (((Unit × Unit × Unit × Unit × Int × Unit) × Y10) → Option R) → Option R
abbrev Tp_5 (R : Type) : Type := ((Int × Y2) × Int × Unit) × (Unit) → ((Bool × (Unit)) → Option R) → Option R
def C_5_12 {R : Type} (q_27_v1 : Tp_27_v1 R) (q_24_v1 : Tp_24_v1 R) (q_25 : Tp_25 R) (q_26 : Tp_26 R) (rec : ((Unit × Unit × Unit × Unit × Int × Int × Unit) × Y10) → Option R) (x : ((Unit × Unit × Unit × Unit × Int × Int × Unit) × Y10)) (κ0 : ((Bool × Unit) × (Unit)) → Option R) (κ1 : ((Unit × Unit × Unit × Unit × Int × Unit) × Y10) → Option R) : Option R :=
let i1525 := x.1.2.2.2.2.1
let i1526 := x.1.2.2.2.2.2.1
let i1527 := x.2.1.1
let i1528 := x.2.1.2.1
let i1529 := x.2.1.2.2.1
let i1530 := x.2.1.2.2.2.1
let i1531 := x.2.1.2.2.2.2.1
let i1532 := x.2.2.1.2.1.1
let i1533 := x.2.2.1.2.1.2.1
let i1534 := x.2.2.1.2.1.2.2.1
let i1535 := x.2.2.1.2.1.2.2.2.1
let i1536 := x.2.2.1.2.1.2.2.2.2.1
let i1537 := x.2.2.1.2.1.2.2.2.2.2.1
let i1538 := x.2.2.1.2.1.2.2.2.2.2.2.1
let i1539 := x.2.2.1.2.1.2.2.2.2.2.2.2.1
let b1540 := x.2.2.2.1.2.2.1
let i1541 := x.2.2.2.2.1.1
let i1542 := x.2.2.2.2.1.2.1
let i1543 := x.2.2.2.2.1.2.2.1
let i1544 := x.2.2.2.2.1.2.2.2.1
let l1545 := x.2.2.2.2.2.1
let i1546 := x.2.2.2.2.2.2.1.2.1
let i1547 := x.2.2.2.2.2.2.1.2.2.1.1
let i1548 := x.2.2.2.2.2.2.1.2.2.1.2.1
let i1549 := x.2.2.2.2.2.2.1.2.2.2.1
let i1550 := x.2.2.2.2.2.2.1.2.2.2.2.2.1.1.1
let i1551 := x.2.2.2.2.2.2.1.2.2.2.2.2.1.1.2.1
let i1552 := x.2.2.2.2.2.2.1.2.2.2.2.2.1.2.1.1
let i1553 := x.2.2.2.2.2.2.1.2.2.2.2.2.1.2.1.2.1
let i1554 := x.2.2.2.2.2.2.1.2.2.2.2.2.1.2.2.1.1
let i1555 := x.2.2.2.2.2.2.1.2.2.2.2.2.1.2.2.1.2.1
let b1556 := x.2.2.2.2.2.2.1.2.2.2.2.2.2.1
let b1557 := x.2.2.2.2.2.2.1.2.2.2.2.2.2.2.1
let b1558 := x.2.2.2.2.2.2.1.2.2.2.2.2.2.2.2.1
let i1559 := x.2.2.2.2.2.2.2.1.1.1
let i1560 := x.2.2.2.2.2.2.2.1.1.2.1
let i1561 := x.2.2.2.2.2.2.2.1.1.2.2.1
let i1562 := x.2.2.2.2.2.2.2.1.1.2.2.2.1
let i1563 := x.2.2.2.2.2.2.2.1.1.2.2.2.2.1
let i1564 := x.2.2.2.2.2.2.2.1.1.2.2.2.2.2.1
let i1565 := x.2.2.2.2.2.2.2.1.1.2.2.2.2.2.2.1
let i1566 := x.2.2.2.2.2.2.2.1.1.2.2.2.2.2.2.2.1
let i1567 := x.2.2.2.2.2.2.2.1.2.1.1
let i1568 := x.2.2.2.2.2.2.2.1.2.1.2.1
let i1569 := x.2.2.2.2.2.2.2.1.2.2.1
let i1570 := x.2.2.2.2.2.2.2.1.2.2.2.1
let a1571 := x.2.2.2.2.2.2.2.1.2.2.2.2.1
let a1572 := x.2.2.2.2.2.2.2.2.1
q_24_v1 (((), ()), (((), (i1546, ((i1547, (i1548, ())), (i1549, ((), (((i1550, (i1551, ())), ((i1552, (i1553, ())), ((i1554, (i1555, ())), ()))), (b1556, (b1557, (b1558, ()))))))))), ((), ((i1532, (i1533, (i1534, (i1535, (i1536, (i1537, (i1538, (i1539, ())))))))), ())), ((), ((), (b1540, ()))), (i1541, (i1542, (i1543, (i1544, ())))), l1545, ((i1559, (i1560, (i1561, (i1562, (i1563, (i1564, (i1565, (i1566, ())))))))), ((i1567, (i1568, ())), (i1569, (i1570, (a1571, ()))))), ())) (fun y1613 =>
let b1614 : Bool := y1613
bif (!b1614) then (
let i1615 : Int := mulA .i64 4 i1525
let i1616 : Int := mulA .i64 20 i1528
let i1617 : Int := addA .i64 i1615 i1616
bif (decide (i1526 < i1617)) then (
q_25 (((), ()), (((), (i1546, ((i1547, (i1548, ())), (i1549, ((), (((i1550, (i1551, ())), ((i1552, (i1553, ())), ((i1554, (i1555, ())), ()))), (b1556, (b1557, (b1558, ()))))))))), ((), ((i1532, (i1533, (i1534, (i1535, (i1536, (i1537, (i1538, (i1539, ())))))))), ())), ((), ((), (b1540, ()))), (i1541, (i1542, (i1543, (i1544, ())))), l1545, ((i1559, (i1560, (i1561, (i1562, (i1563, (i1564, (i1565, (i1566, ())))))))), ((i1567, (i1568, ())), (i1569, (i1570, (a1571, ()))))), ())) (fun y1658 =>
let b1659 : Bool := y1658
bif b1659 then (
q_26 (((), ()), (((), (i1546, ((i1547, (i1548, ())), (i1549, ((), (((i1550, (i1551, ())), ((i1552, (i1553, ())), ((i1554, (i1555, ())), ()))), (b1556, (b1557, (b1558, ()))))))))), ((), ((i1532, (i1533, (i1534, (i1535, (i1536, (i1537, (i1538, (i1539, ())))))))), ())), ((), ((), (b1540, ()))), (i1541, (i1542, (i1543, (i1544, ())))), l1545, ((i1559, (i1560, (i1561, (i1562, (i1563, (i1564, (i1565, (i1566, ())))))))), ((i1567, (i1568, ())), (i1569, (i1570, (a1571, ()))))), ())) (fun y1832 =>
let b1833 := y1832.1
let i1834 := y1832.2.1.2.1
let i1835 := y1832.2.1.2.2.1.1
let i1836 := y1832.2.1.2.2.1.2.1
let i1837 := y1832.2.1.2.2.2.1
let i1838 := y1832.2.1.2.2.2.2.2.1.1.1
let i1839 := y1832.2.1.2.2.2.2.2.1.1.2.1
let i1840 := y1832.2.1.2.2.2.2.2.1.2.1.1
let i1841 := y1832.2.1.2.2.2.2.2.1.2.1.2.1
let i1842 := y1832.2.1.2.2.2.2.2.1.2.2.1.1
let i1843 := y1832.2.1.2.2.2.2.2.1.2.2.1.2.1
let b1844 := y1832.2.1.2.2.2.2.2.2.1
let b1845 := y1832.2.1.2.2.2.2.2.2.2.1
let b1846 := y1832.2.1.2.2.2.2.2.2.2.2.1
let i1847 := y1832.2.2.1.2.1.1
let i1848 := y1832.2.2.1.2.1.2.1
let i1849 := y1832.2.2.1.2.1.2.2.1
let i1850 := y1832.2.2.1.2.1.2.2.2.1
let i1851 := y1832.2.2.1.2.1.2.2.2.2.1
let i1852 := y1832.2.2.1.2.1.2.2.2.2.2.1
let i1853 := y1832.2.2.1.2.1.2.2.2.2.2.2.1
let i1854 := y1832.2.2.1.2.1.2.2.2.2.2.2.2.1
let b1855 := y1832.2.2.2.1.2.2.1
let i1856 := y1832.2.2.2.2.1.1
let i1857 := y1832.2.2.2.2.1.2.1
let i1858 := y1832.2.2.2.2.1.2.2.1
let i1859 := y1832.2.2.2.2.1.2.2.2.1
let l1860 := y1832.2.2.2.2.2.1
let i1861 := y1832.2.2.2.2.2.2.1.1.1
let i1862 := y1832.2.2.2.2.2.2.1.1.2.1
let i1863 := y1832.2.2.2.2.2.2.1.1.2.2.1
let i1864 := y1832.2.2.2.2.2.2.1.1.2.2.2.1
let i1865 := y1832.2.2.2.2.2.2.1.1.2.2.2.2.1
let i1866 := y1832.2.2.2.2.2.2.1.1.2.2.2.2.2.1
let i1867 := y1832.2.2.2.2.2.2.1.1.2.2.2.2.2.2.1
let i1868 := y1832.2.2.2.2.2.2.1.1.2.2.2.2.2.2.2.1
let i1869 := y1832.2.2.2.2.2.2.1.2.1.1
let i1870 := y1832.2.2.2.2.2.2.1.2.1.2.1
let i1871 := y1832.2.2.2.2.2.2.1.2.2.1
let i1872 := y1832.2.2.2.2.2.2.1.2.2.2.1
let a1873 := y1832.2.2.2.2.2.2.1.2.2.2.2.1
let i1874 : Int := addA .i64 i1526 1
rec (((), (), (), (), i1525, i1874, ()), ((i1527, (i1528, (i1529, (i1530, (i1531, ()))))), ((), ((i1847, (i1848, (i1849, (i1850, (i1851, (i1852, (i1853, (i1854, ())))))))), ())), ((), ((), (b1855, ()))), (i1856, (i1857, (i1858, (i1859, ())))), l1860, ((), (i1834, ((i1835, (i1836, ())), (i1837, ((), (((i1838, (i1839, ())), ((i1840, (i1841, ())), ((i1842, (i1843, ())), ()))), (b1844, (b1845, (b1846, ()))))))))), ((i1861, (i1862, (i1863, (i1864, (i1865, (i1866, (i1867, (i1868, ())))))))), ((i1869, (i1870, ())), (i1871, (i1872, (a1873, ()))))), a1572, ()))) (fun y1875 =>
let b1876 := y1875.1
let i1877 := y1875.2.1.2.1
let i1878 := y1875.2.1.2.2.1.1
let i1879 := y1875.2.1.2.2.1.2.1
let i1880 := y1875.2.1.2.2.2.1
let i1881 := y1875.2.1.2.2.2.2.2.1.1.1
let i1882 := y1875.2.1.2.2.2.2.2.1.1.2.1
let i1883 := y1875.2.1.2.2.2.2.2.1.2.1.1
let i1884 := y1875.2.1.2.2.2.2.2.1.2.1.2.1
let i1885 := y1875.2.1.2.2.2.2.2.1.2.2.1.1
let i1886 := y1875.2.1.2.2.2.2.2.1.2.2.1.2.1
let b1887 := y1875.2.1.2.2.2.2.2.2.1
let b1888 := y1875.2.1.2.2.2.2.2.2.2.1
let b1889 := y1875.2.1.2.2.2.2.2.2.2.2.1
let i1890 := y1875.2.2.1.2.1.1
let i1891 := y1875.2.2.1.2.1.2.1
let i1892 := y1875.2.2.1.2.1.2.2.1
let i1893 := y1875.2.2.1.2.1.2.2.2.1
let i1894 := y1875.2.2.1.2.1.2.2.2.2.1
let i1895 := y1875.2.2.1.2.1.2.2.2.2.2.1
let i1896 := y1875.2.2.1.2.1.2.2.2.2.2.2.1
let i1897 := y1875.2.2.1.2.1.2.2.2.2.2.2.2.1
let b1898 := y1875.2.2.2.1.2.2.1
let i1899 := y1875.2.2.2.2.1.1
let i1900 := y1875.2.2.2.2.1.2.1
let i1901 := y1875.2.2.2.2.1.2.2.1
let i1902 := y1875.2.2.2.2.1.2.2.2.1
let l1903 := y1875.2.2.2.2.2.1
let i1904 := y1875.2.2.2.2.2.2.1.1.1
let i1905 := y1875.2.2.2.2.2.2.1.1.2.1
let i1906 := y1875.2.2.2.2.2.2.1.1.2.2.1
let i1907 := y1875.2.2.2.2.2.2.1.1.2.2.2.1
let i1908 := y1875.2.2.2.2.2.2.1.1.2.2.2.2.1
let i1909 := y1875.2.2.2.2.2.2.1.1.2.2.2.2.2.1
let i1910 := y1875.2.2.2.2.2.2.1.1.2.2.2.2.2.2.1
let i1911 := y1875.2.2.2.2.2.2.1.1.2.2.2.2.2.2.2.1
let i1912 := y1875.2.2.2.2.2.2.1.2.1.1
let i1913 := y1875.2.2.2.2.2.2.1.2.1.2.1
let i1914 := y1875.2.2.2.2.2.2.1.2.2.1
let i1915 := y1875.2.2.2.2.2.2.1.2.2.2.1
let a1916 := y1875.2.2.2.2.2.2.1.2.2.2.2.1
let i1917 := y1875.2.2.2.2.2.2.2.1.1.1
let i1918 := y1875.2.2.2.2.2.2.2.1.1.2.1
let i1919 := y1875.2.2.2.2.2.2.2.1.1.2.2.1
let i1920 := y1875.2.2.2.2.2.2.2.1.1.2.2.2.1
let i1921 := y1875.2.2.2.2.2.2.2.1.1.2.2.2.2.1
let i1922 := y1875.2.2.2.2.2.2.2.1.1.2.2.2.2.2.1
let i1923 := y1875.2.2.2.2.2.2.2.1.1.2.2.2.2.2.2.1
let i1924 := y1875.2.2.2.2.2.2.2.1.1.2.2.2.2.2.2.2.1
let i1925 := y1875.2.2.2.2.2.2.2.1.2.1.1
let i1926 := y1875.2.2.2.2.2.2.2.1.2.1.2.1
let i1927 := y1875.2.2.2.2.2.2.2.1.2.2.1
let i1928 := y1875.2.2.2.2.2.2.2.1.2.2.2.1
let a1929 := y1875.2.2.2.2.2.2.2.1.2.2.2.2.1
let i1930 : Int := addA .i64 i1526 1
rec (((), (), (), (), i1525, i1930, ()), ((i1527, (i1528, (i1529, (i1530, (i1531, ()))))), ((), ((i1890, (i1891, (i1892, (i1893, (i1894, (i1895, (i1896, (i1897, ())))))))), ())), ((), ((), (b1898, ()))), (i1899, (i1900, (i1901, (i1902, ())))), l1903, ((), (i1877, ((i1878, (i1879, ())), (i1880, ((), (((i1881, (i1882, ())), ((i1883, (i1884, ())), ((i1885, (i1886, ())), ()))), (b1887, (b1888, (b1889, ()))))))))), ((i1917, (i1918, (i1919, (i1920, (i1921, (i1922, (i1923, (i1924, ())))))))), ((i1925, (i1926, ())), (i1927, (i1928, (a1929, ()))))), a1572, ())))) else (
q_27_v1 (((), ()), (((), (i1546, ((i1547, (i1548, ())), (i1549, ((), (((i1550, (i1551, ())), ((i1552, (i1553, ())), ((i1554, (i1555, ())), ()))), (b1556, (b1557, (b1558, ()))))))))), ((), ((i1532, (i1533, (i1534, (i1535, (i1536, (i1537, (i1538, (i1539, ())))))))), ())), ((), ((), (b1540, ()))), (i1541, (i1542, (i1543, (i1544, ())))), l1545, ((i1559, (i1560, (i1561, (i1562, (i1563, (i1564, (i1565, (i1566, ())))))))), ((i1567, (i1568, ())), (i1569, (i1570, (a1571, ()))))), ())) (fun y1931 =>
let i1932 := y1931.1.1.1
let i1933 := y1931.1.1.2.1
let i1934 := y1931.1.1.2.2.1.1
let i1935 := y1931.1.1.2.2.1.2.1
let i1936 := y1931.1.1.2.2.2.1.1
let i1937 := y1931.1.1.2.2.2.1.2.1
let i1938 := y1931.1.1.2.2.2.2.1.1
let i1939 := y1931.1.1.2.2.2.2.1.2.1
let i1940 := y1931.1.2.1
let i1941 := y1931.2.1.2.1
let i1942 := y1931.2.1.2.2.1.1
let i1943 := y1931.2.1.2.2.1.2.1
let i1944 := y1931.2.1.2.2.2.1
let i1945 := y1931.2.1.2.2.2.2.2.1.1.1
let i1946 := y1931.2.1.2.2.2.2.2.1.1.2.1
let i1947 := y1931.2.1.2.2.2.2.2.1.2.1.1
let i1948 := y1931.2.1.2.2.2.2.2.1.2.1.2.1
let i1949 := y1931.2.1.2.2.2.2.2.1.2.2.1.1
let i1950 := y1931.2.1.2.2.2.2.2.1.2.2.1.2.1
let b1951 := y1931.2.1.2.2.2.2.2.2.1
let b1952 := y1931.2.1.2.2.2.2.2.2.2.1
let b1953 := y1931.2.1.2.2.2.2.2.2.2.2.1
let i1954 := y1931.2.2.1.2.1.1
let i1955 := y1931.2.2.1.2.1.2.1
let i1956 := y1931.2.2.1.2.1.2.2.1
let i1957 := y1931.2.2.1.2.1.2.2.2.1
let i1958 := y1931.2.2.1.2.1.2.2.2.2.1
let i1959 := y1931.2.2.1.2.1.2.2.2.2.2.1
let i1960 := y1931.2.2.1.2.1.2.2.2.2.2.2.1
let i1961 := y1931.2.2.1.2.1.2.2.2.2.2.2.2.1
let b1962 := y1931.2.2.2.1.2.2.1
let i1963 := y1931.2.2.2.2.1.1
let i1964 := y1931.2.2.2.2.1.2.1
let i1965 := y1931.2.2.2.2.1.2.2.1
let i1966 := y1931.2.2.2.2.1.2.2.2.1
let l1967 := y1931.2.2.2.2.2.1
let i1968 := y1931.2.2.2.2.2.2.1.1.1
let i1969 := y1931.2.2.2.2.2.2.1.1.2.1
let i1970 := y1931.2.2.2.2.2.2.1.1.2.2.1
let i1971 := y1931.2.2.2.2.2.2.1.1.2.2.2.1
let i1972 := y1931.2.2.2.2.2.2.1.1.2.2.2.2.1
let i1973 := y1931.2.2.2.2.2.2.1.1.2.2.2.2.2.1
let i1974 := y1931.2.2.2.2.2.2.1.1.2.2.2.2.2.2.1
let i1975 := y1931.2.2.2.2.2.2.1.1.2.2.2.2.2.2.2.1
let i1976 := y1931.2.2.2.2.2.2.1.2.1.1
let i1977 := y1931.2.2.2.2.2.2.1.2.1.2.1
let i1978 := y1931.2.2.2.2.2.2.1.2.2.1
let i1979 := y1931.2.2.2.2.2.2.1.2.2.2.1
let a1980 := y1931.2.2.2.2.2.2.1.2.2.2.2.1
bif (i1940 != 0) then (
κ0 ((false, ()), ())) else (
bif (decide (i1932 < 1)) then (
κ0 ((false, ()), ())) else (
bif (decide (i1932 > 3)) then (
κ0 ((false, ()), ())) else (
bif decide (0 ≤ i1932) then (
bif decide (i1932 < (4 : Int)) then (
let i1981 : Int := (a1572 ((Int.toNat i1932)))
let i1982 : Int := addA .i64 i1981 1
bif decide (0 ≤ i1932) then (
bif decide (i1932 < (4 : Int)) then (
let a1983 : (Nat → Int) := (upd a1572 ((Int.toNat i1932)) i1982)
let i1984 : Int := addA .i64 i1526 1
rec (((), (), (), (), i1525, i1984, ()), ((i1527, (i1528, (i1529, (i1530, (i1531, ()))))), ((), ((i1954, (i1955, (i1956, (i1957, (i1958, (i1959, (i1960, (i1961, ())))))))), ())), ((), ((), (b1962, ()))), (i1963, (i1964, (i1965, (i1966, ())))), l1967, ((), (i1941, ((i1942, (i1943, ())), (i1944, ((), (((i1945, (i1946, ())), ((i1947, (i1948, ())), ((i1949, (i1950, ())), ()))), (b1951, (b1952, (b1953, ()))))))))), ((i1968, (i1969, (i1970, (i1971, (i1972, (i1973, (i1974, (i1975, ())))))))), ((i1976, (i1977, ())), (i1978, (i1979, (a1980, ()))))), a1983, ()))) else none) else none) else none) else none))))))) else (
κ1 (((), (), (), (), i1525, ()), ((i1527, (i1528, (i1529, (i1530, (i1531, ()))))), ((), ((i1532, (i1533, (i1534, (i1535, (i1536, (i1537, (i1538, (i1539, ())))))))), ())), ((), ((), (b1540, ()))), (i1541, (i1542, (i1543, (i1544, ())))), l1545, ((), (i1546, ((i1547, (i1548, ())), (i1549, ((), (((i1550, (i1551, ())), ((i1552, (i1553, ())), ((i1554, (i1555, ())), ()))), (b1556, (b1557, (b1558, ()))))))))), ((i1559, (i1560, (i1561, (i1562, (i1563, (i1564, (i1565, (i1566, ())))))))), ((i1567, (i1568, ())), (i1569, (i1570, (a1571, ()))))), a1572, ())))) else (
κ1 (((), (), (), (), i1525, ()), ((i1527, (i1528, (i1529, (i1530, (i1531, ()))))), ((), ((i1532, (i1533, (i1534, (i1535, (i1536, (i1537, (i1538, (i1539, ())))))))), ())), ((), ((), (b1540, ()))), (i1541, (i1542, (i1543, (i1544, ())))), l1545, ((), (i1546, ((i1547, (i1548, ())), (i1549, ((), (((i1550, (i1551, ())), ((i1552, (i1553, ())), ((i1554, (i1555, ())), ()))), (b1556, (b1557, (b1558, ()))))))))), ((i1559, (i1560, (i1561, (i1562, (i1563, (i1564, (i1565, (i1566, ())))))))), ((i1567, (i1568, ())), (i1569, (i1570, (a1571, ()))))), a1572, ()))))
def B_5_12 {R : Type} (N : Nat) (rec : ((Unit × Unit × Unit × Unit × Int × Int × Unit) × Y10) → Option R) (x : ((Unit × Unit × Unit × Unit × Int × Int × Unit) × Y10)) (κ0 : ((Bool × Unit) × (Unit)) → Option R) (κ1 : ((Unit × Unit × Unit × Unit × Int × Unit) × Y10) → Option R) : Option R := C_5_12 (p_27_v1 N) (p_24_v1 N) (p_25 N) (p_26 N) rec x κ0 κ1
def l_5_12 {R : Type} (N : Nat) : Nat → ((Unit × Unit × Unit × Unit × Int × Int × Unit) × Y10) → (((Bool × Unit) × (Unit)) → Option R) → (((Unit × Unit × Unit × Unit × Int × Unit) × Y10) → Option R) → Option R
  | 0, _, _, _ => none
  | n + 1, x, κ0, κ1 => B_5_12 N (fun y => l_5_12 N n y κ0 κ1) x κ0 κ1
def Q_5 {R : Type} (q_21 : Tp_21 R) (q_14 : Tp_14 R) (q_22_v1 : Tp_22_v1 R) (q_23 : Tp_23 R) (q_27_v1 : Tp_27_v1 R) (q_24_v1 : Tp_24_v1 R) (q_25 : Tp_25 R) (q_26 : Tp_26 R) (m_5_12 : Tl_5_12 R) (x : ((Int × Y2) × Int × Unit) × (Unit)) (κ0 : (Bool × (Unit)) → Option R) : Option R :=
let i1 := x.1.1.1
let i2 := x.1.1.2.1
let i3 := x.1.1.2.2.1
let i4 := x.1.1.2.2.2.1
let i5 := x.1.1.2.2.2.2.1
let i6 := x.1.2.1
q_21 ((), ()) (fun y1388 =>
let b1389 : Bool := y1388
bif (!b1389) then (
κ0 (false, ())) else (
q_14 (((i1, (i2, (i3, (i4, (i5, ()))))), ()), ()) (fun y1390 =>
κ0 (true, ())) (fun y1391 =>
let i1392 := y1391.2.1.2.1.1
let i1393 := y1391.2.1.2.1.2.1
let i1394 := y1391.2.1.2.1.2.2.1
let i1395 := y1391.2.1.2.1.2.2.2.1
let i1396 := y1391.2.1.2.1.2.2.2.2.1
let i1397 := y1391.2.1.2.1.2.2.2.2.2.1
let i1398 := y1391.2.1.2.1.2.2.2.2.2.2.1
let i1399 := y1391.2.1.2.1.2.2.2.2.2.2.2.1
let b1400 := y1391.2.2.1.2.2.1
let i1401 := y1391.2.2.2.1.1
let i1402 := y1391.2.2.2.1.2.1
let i1403 := y1391.2.2.2.1.2.2.1
let i1404 := y1391.2.2.2.1.2.2.2.1
let l1405 := y1391.2.2.2.2.1
q_22_v1 (((), i6, ()), (((), ((i1392, (i1393, (i1394, (i1395, (i1396, (i1397, (i1398, (i1399, ())))))))), ())), ((), ((), (b1400, ()))), (i1401, (i1402, (i1403, (i1404, ())))), l1405, ())) (fun y1406 =>
let i1407 := y1406.1.2.1
let i1408 := y1406.2.1.2.1.1
let i1409 := y1406.2.1.2.1.2.1
let i1410 := y1406.2.1.2.1.2.2.1
let i1411 := y1406.2.1.2.1.2.2.2.1
let i1412 := y1406.2.1.2.1.2.2.2.2.1
let i1413 := y1406.2.1.2.1.2.2.2.2.2.1
let i1414 := y1406.2.1.2.1.2.2.2.2.2.2.1
let i1415 := y1406.2.1.2.1.2.2.2.2.2.2.2.1
let b1416 := y1406.2.2.1.2.2.1
let i1417 := y1406.2.2.2.1.1
let i1418 := y1406.2.2.2.1.2.1
let i1419 := y1406.2.2.2.1.2.2.1
let i1420 := y1406.2.2.2.1.2.2.2.1
let l1421 := y1406.2.2.2.2.1
bif (i1407 != 0) then (
bif (decide (i6 < 0)) then (
κ0 (true, ())) else (
κ0 ((decide (i6 ≥ i1410)), ()))) else (
q_23 (((i1408, (i1409, (i1410, (i1411, (i1412, (i1413, (i1414, (i1415, ())))))))), ()), ()) (fun y1477 =>
let i1478 := y1477.1
let i1479 := y1477.2.1
none))) (fun y1480 =>
let i1481 := y1480.1.2.1
let i1482 := y1480.2.1.2.1.1
let i1483 := y1480.2.1.2.1.2.1
let i1484 := y1480.2.1.2.1.2.2.1
let i1485 := y1480.2.1.2.1.2.2.2.1
let i1486 := y1480.2.1.2.1.2.2.2.2.1
let i1487 := y1480.2.1.2.1.2.2.2.2.2.1
let i1488 := y1480.2.1.2.1.2.2.2.2.2.2.1
let i1489 := y1480.2.1.2.1.2.2.2.2.2.2.2.1
let b1490 := y1480.2.2.1.2.2.1
let i1491 := y1480.2.2.2.1.1
let i1492 := y1480.2.2.2.1.2.1
let i1493 := y1480.2.2.2.1.2.2.1
let i1494 := y1480.2.2.2.1.2.2.2.1
let l1495 := y1480.2.2.2.2.1
let i1496 := y1480.2.2.2.2.2.1.2.1
let i1497 := y1480.2.2.2.2.2.1.2.2.1.1
let i1498 := y1480.2.2.2.2.2.1.2.2.1.2.1
let i1499 := y1480.2.2.2.2.2.1.2.2.2.1
let i1500 := y1480.2.2.2.2.2.1.2.2.2.2.2.1.1.1
let i1501 := y1480.2.2.2.2.2.1.2.2.2.2.2.1.1.2.1
let i1502 := y1480.2.2.2.2.2.1.2.2.2.2.2.1.2.1.1
let i1503 := y1480.2.2.2.2.2.1.2.2.2.2.2.1.2.1.2.1
let i1504 := y1480.2.2.2.2.2.1.2.2.2.2.2.1.2.2.1.1
let i1505 := y1480.2.2.2.2.2.1.2.2.2.2.2.1.2.2.1.2.1
let b1506 := y1480.2.2.2.2.2.1.2.2.2.2.2.2.1
let b1507 := y1480.2.2.2.2.2.1.2.2.2.2.2.2.2.1
let b1508 := y1480.2.2.2.2.2.1.2.2.2.2.2.2.2.2.1
let i1509 := y1480.2.2.2.2.2.2.1.1.1
let i1510 := y1480.2.2.2.2.2.2.1.1.2.1
let i1511 := y1480.2.2.2.2.2.2.1.1.2.2.1
let i1512 := y1480.2.2.2.2.2.2.1.1.2.2.2.1
let i1513 := y1480.2.2.2.2.2.2.1.1.2.2.2.2.1
let i1514 := y1480.2.2.2.2.2.2.1.1.2.2.2.2.2.1
let i1515 := y1480.2.2.2.2.2.2.1.1.2.2.2.2.2.2.1
let i1516 := y1480.2.2.2.2.2.2.1.1.2.2.2.2.2.2.2.1
let i1517 := y1480.2.2.2.2.2.2.1.2.1.1
let i1518 := y1480.2.2.2.2.2.2.1.2.1.2.1
let i1519 := y1480.2.2.2.2.2.2.1.2.2.1
let i1520 := y1480.2.2.2.2.2.2.1.2.2.2.1
let a1521 := y1480.2.2.2.2.2.2.1.2.2.2.2.1
bif (i1481 != 0) then (
bif (decide (i6 < 0)) then (
κ0 (true, ())) else (
κ0 ((decide (i6 ≥ i1484)), ()))) else (
q_23 (((i1482, (i1483, (i1484, (i1485, (i1486, (i1487, (i1488, (i1489, ())))))))), ()), ()) (fun y1522 =>
let i1523 := y1522.1
let i1524 := y1522.2.1
m_5_12 (((), (), (), (), i1523, 0, ()), ((i1, (i2, (i3, (i4, (i5, ()))))), ((), ((i1482, (i1483, (i1484, (i1485, (i1486, (i1487, (i1488, (i1489, ())))))))), ())), ((), ((), (b1490, ()))), (i1491, (i1492, (i1493, (i1494, ())))), l1495, ((), (i1496, ((i1497, (i1498, ())), (i1499, ((), (((i1500, (i1501, ())), ((i1502, (i1503, ())), ((i1504, (i1505, ())), ()))), (b1506, (b1507, (b1508, ()))))))))), ((i1509, (i1510, (i1511, (i1512, (i1513, (i1514, (i1515, (i1516, ())))))))), ((i1517, (i1518, ())), (i1519, (i1520, (a1521, ()))))), (Sch.zero (.arr 4 (.int .i64))), ())) (fun y1985 =>
let b1986 := y1985.1.1
κ0 (b1986, ())) (fun y1987 =>
let i1988 := y1987.1.2.2.2.2.1
let i1989 := y1987.2.1.1
let i1990 := y1987.2.1.2.1
let i1991 := y1987.2.1.2.2.1
let i1992 := y1987.2.1.2.2.2.1
let i1993 := y1987.2.1.2.2.2.2.1
let i1994 := y1987.2.2.1.2.1.1
let i1995 := y1987.2.2.1.2.1.2.1
let i1996 := y1987.2.2.1.2.1.2.2.1
let i1997 := y1987.2.2.1.2.1.2.2.2.1
let i1998 := y1987.2.2.1.2.1.2.2.2.2.1
let i1999 := y1987.2.2.1.2.1.2.2.2.2.2.1
let i2000 := y1987.2.2.1.2.1.2.2.2.2.2.2.1
let i2001 := y1987.2.2.1.2.1.2.2.2.2.2.2.2.1
let b2002 := y1987.2.2.2.1.2.2.1
let i2003 := y1987.2.2.2.2.1.1
let i2004 := y1987.2.2.2.2.1.2.1
let i2005 := y1987.2.2.2.2.1.2.2.1
let i2006 := y1987.2.2.2.2.1.2.2.2.1
let l2007 := y1987.2.2.2.2.2.1
let i2008 := y1987.2.2.2.2.2.2.1.2.1
let i2009 := y1987.2.2.2.2.2.2.1.2.2.1.1
let i2010 := y1987.2.2.2.2.2.2.1.2.2.1.2.1
let i2011 := y1987.2.2.2.2.2.2.1.2.2.2.1
let i2012 := y1987.2.2.2.2.2.2.1.2.2.2.2.2.1.1.1
let i2013 := y1987.2.2.2.2.2.2.1.2.2.2.2.2.1.1.2.1
let i2014 := y1987.2.2.2.2.2.2.1.2.2.2.2.2.1.2.1.1
let i2015 := y1987.2.2.2.2.2.2.1.2.2.2.2.2.1.2.1.2.1
let i2016 := y1987.2.2.2.2.2.2.1.2.2.2.2.2.1.2.2.1.1
let i2017 := y1987.2.2.2.2.2.2.1.2.2.2.2.2.1.2.2.1.2.1
let b2018 := y1987.2.2.2.2.2.2.1.2.2.2.2.2.2.1
let b2019 := y1987.2.2.2.2.2.2.1.2.2.2.2.2.2.2.1
let b2020 := y1987.2.2.2.2.2.2.1.2.2.2.2.2.2.2.2.1
let i2021 := y1987.2.2.2.2.2.2.2.1.1.1
let i2022 := y1987.2.2.2.2.2.2.2.1.1.2.1
let i2023 := y1987.2.2.2.2.2.2.2.1.1.2.2.1
let i2024 := y1987.2.2.2.2.2.2.2.1.1.2.2.2.1
let i2025 := y1987.2.2.2.2.2.2.2.1.1.2.2.2.2.1
let i2026 := y1987.2.2.2.2.2.2.2.1.1.2.2.2.2.2.1
let i2027 := y1987.2.2.2.2.2.2.2.1.1.2.2.2.2.2.2.1
let i2028 := y1987.2.2.2.2.2.2.2.1.1.2.2.2.2.2.2.2.1
let i2029 := y1987.2.2.2.2.2.2.2.1.2.1.1
let i2030 := y1987.2.2.2.2.2.2.2.1.2.1.2.1
let i2031 := y1987.2.2.2.2.2.2.2.1.2.2.1
let i2032 := y1987.2.2.2.2.2.2.2.1.2.2.2.1
let a2033 := y1987.2.2.2.2.2.2.2.1.2.2.2.2.1
let a2034 := y1987.2.2.2.2.2.2.2.2.1
q_27_v1 (((), ()), (((), (i2008, ((i2009, (i2010, ())), (i2011, ((), (((i2012, (i2013, ())), ((i2014, (i2015, ())), ((i2016, (i2017, ())), ()))), (b2018, (b2019, (b2020, ()))))))))), ((), ((i1994, (i1995, (i1996, (i1997, (i1998, (i1999, (i2000, (i2001, ())))))))), ())), ((), ((), (b2002, ()))), (i2003, (i2004, (i2005, (i2006, ())))), l2007, ((i2021, (i2022, (i2023, (i2024, (i2025, (i2026, (i2027, (i2028, ())))))))), ((i2029, (i2030, ())), (i2031, (i2032, (a2033, ()))))), ())) (fun y2035 =>
let i2036 := y2035.1.1.1
let i2037 := y2035.1.1.2.1
let i2038 := y2035.1.1.2.2.1.1
let i2039 := y2035.1.1.2.2.1.2.1
let i2040 := y2035.1.1.2.2.2.1.1
let i2041 := y2035.1.1.2.2.2.1.2.1
let i2042 := y2035.1.1.2.2.2.2.1.1
let i2043 := y2035.1.1.2.2.2.2.1.2.1
let i2044 := y2035.1.2.1
let i2045 := y2035.2.1.2.1
let i2046 := y2035.2.1.2.2.1.1
let i2047 := y2035.2.1.2.2.1.2.1
let i2048 := y2035.2.1.2.2.2.1
let i2049 := y2035.2.1.2.2.2.2.2.1.1.1
let i2050 := y2035.2.1.2.2.2.2.2.1.1.2.1
let i2051 := y2035.2.1.2.2.2.2.2.1.2.1.1
let i2052 := y2035.2.1.2.2.2.2.2.1.2.1.2.1
let i2053 := y2035.2.1.2.2.2.2.2.1.2.2.1.1
let i2054 := y2035.2.1.2.2.2.2.2.1.2.2.1.2.1
let b2055 := y2035.2.1.2.2.2.2.2.2.1
let b2056 := y2035.2.1.2.2.2.2.2.2.2.1
let b2057 := y2035.2.1.2.2.2.2.2.2.2.2.1
let i2058 := y2035.2.2.1.2.1.1
let i2059 := y2035.2.2.1.2.1.2.1
let i2060 := y2035.2.2.1.2.1.2.2.1
let i2061 := y2035.2.2.1.2.1.2.2.2.1
let i2062 := y2035.2.2.1.2.1.2.2.2.2.1
let i2063 := y2035.2.2.1.2.1.2.2.2.2.2.1
let i2064 := y2035.2.2.1.2.1.2.2.2.2.2.2.1
let i2065 := y2035.2.2.1.2.1.2.2.2.2.2.2.2.1
let b2066 := y2035.2.2.2.1.2.2.1
let i2067 := y2035.2.2.2.2.1.1
let i2068 := y2035.2.2.2.2.1.2.1
let i2069 := y2035.2.2.2.2.1.2.2.1
let i2070 := y2035.2.2.2.2.1.2.2.2.1
let l2071 := y2035.2.2.2.2.2.1
let i2072 := y2035.2.2.2.2.2.2.1.1.1
let i2073 := y2035.2.2.2.2.2.2.1.1.2.1
let i2074 := y2035.2.2.2.2.2.2.1.1.2.2.1
let i2075 := y2035.2.2.2.2.2.2.1.1.2.2.2.1
let i2076 := y2035.2.2.2.2.2.2.1.1.2.2.2.2.1
let i2077 := y2035.2.2.2.2.2.2.1.1.2.2.2.2.2.1
let i2078 := y2035.2.2.2.2.2.2.1.1.2.2.2.2.2.2.1
let i2079 := y2035.2.2.2.2.2.2.1.1.2.2.2.2.2.2.2.1
let i2080 := y2035.2.2.2.2.2.2.1.2.1.1
let i2081 := y2035.2.2.2.2.2.2.1.2.1.2.1
let i2082 := y2035.2.2.2.2.2.2.1.2.2.1
let i2083 := y2035.2.2.2.2.2.2.1.2.2.2.1
let a2084 := y2035.2.2.2.2.2.2.1.2.2.2.2.1
q_24_v1 (((), ()), (((), (i2045, ((i2046, (i2047, ())), (i2048, ((), (((i2049, (i2050, ())), ((i2051, (i2052, ())), ((i2053, (i2054, ())), ()))), (b2055, (b2056, (b2057, ()))))))))), ((), ((i2058, (i2059, (i2060, (i2061, (i2062, (i2063, (i2064, (i2065, ())))))))), ())), ((), ((), (b2066, ()))), (i2067, (i2068, (i2069, (i2070, ())))), l2071, ((i2072, (i2073, (i2074, (i2075, (i2076, (i2077, (i2078, (i2079, ())))))))), ((i2080, (i2081, ())), (i2082, (i2083, (a2084, ()))))), ())) (fun y2085 =>
let b2086 : Bool := y2085
bif b2086 then (
bif (i2044 == 12) then (
let i2087 : Int := (a2034 1)
bif decide (i2060 = 0) then none else (
let i2088 : Int := quoA .i64 i1988 i2060
bif (i2087 == i2088) then (
let i2089 : Int := (a2034 2)
bif decide (i2060 = 0) then none else (
let i2090 : Int := quoA .i64 i1988 i2060
bif (i2089 == i2090) then (
let i2091 : Int := (a2034 3)
let i2092 : Int := mulA .i64 4 i1990
κ0 ((i2091 == i2092), ())) else (
κ0 (false, ())))) else (
κ0 (false, ())))) else (
κ0 (false, ()))) else (
κ0 (false, ())))))))))))
def p_5 {R : Type} (N : Nat) (x : ((Int × Y2) × Int × Unit) × (Unit)) (κ0 : (Bool × (Unit)) → Option R) : Option R := Q_5 (p_21 N) (p_14 N) (p_22_v1 N) (p_23 N) (p_27_v1 N) (p_24_v1 N) (p_25 N) (p_26 N) (l_5_12 N N) x κ0
def EG_5 {R : Type} (q_21 : Tp_21 R) (q_14 : Tp_14 R) (q_22_v1 : Tp_22_v1 R) (q_23 : Tp_23 R) (q_27_v1 : Tp_27_v1 R) (q_24_v1 : Tp_24_v1 R) (q_25 : Tp_25 R) (q_26 : Tp_26 R) : Env R := ((((((((Env.base QQ LN AA).add 21 ap_21 hp_21 (fun (x : aden ap_21 × hden hp_21) k => q_21 x (fun y => k (Pat.inst (.bool) y) (instH hp_21 x.2)))).add 14 ap_14 hp_14 (fun (x : aden ap_14 × hden hp_14) k => q_14 x (fun y => k (Pat.inst (.nilp) y.1) (instH [] y.2)) (fun y => k (Pat.inst (.ptr 0 []) y.1) (instH J1 y.2)))).add 22 ap_22_v1 hp_22_v1 (fun (x : aden ap_22_v1 × hden hp_22_v1) k => q_22_v1 x (fun y => k (Pat.inst (.tup (.fcons (.nilp) (.fcons (.int .i64) (.fnil)))) y.1) (instH J1 y.2)) (fun y => k (Pat.inst (.tup (.fcons (.ptr 4 []) (.fcons (.int .i64) (.fnil)))) y.1) (instH J5 y.2)))).add 23 ap_23 hp_23 (fun (x : aden ap_23 × hden hp_23) k => q_23 x (fun y => k (Pat.inst (.tup (.fcons (.int .i64) (.fcons (.int .i64) (.fnil)))) y) (instH hp_23 x.2)))).add 27 ap_27_v1 hp_27_v1 (fun (x : aden ap_27_v1 × hden hp_27_v1) k => q_27_v1 x (fun y => k (Pat.inst (.tup (.fcons Z12 (.fcons (.int .i64) (.fnil)))) y.1) (instH J0 y.2)))).add 24 ap_24_v1 hp_24_v1 (fun (x : aden ap_24_v1 × hden hp_24_v1) k => q_24_v1 x (fun y => k (Pat.inst (.bool) y) (instH hp_24_v1 x.2)))).add 25 ap_25 hp_25 (fun (x : aden ap_25 × hden hp_25) k => q_25 x (fun y => k (Pat.inst (.bool) y) (instH hp_25 x.2)))).add 26 ap_26 hp_26 (fun (x : aden ap_26 × hden hp_26) k => q_26 x (fun y => k (Pat.inst (.bool) y.1) (instH J0 y.2)) (fun y => k (Pat.inst (.bool) y.1) (instH J2 y.2)))
def LG_5 {R : Type} (m_5_12 : Tl_5_12 R) : Loops R := (Loops.none).add 12 (loopBy 0 lv_5_12 pt_5_12 (fun x k => m_5_12 x (fun y => k .ret (px_5_12_0.inst y)) (fun y => k (.exit 0) (px_5_12_1.inst y))))
def E_5 {R : Type} (N : Nat) : Env R := EG_5 (p_21 N) (p_14 N) (p_22_v1 N) (p_23 N) (p_27_v1 N) (p_24_v1 N) (p_25 N) (p_26 N)
theorem eok_5 {R : Type} (N : Nat) : EK Try.prog (E_5 (R := R) N) := ek_add (ek_add (ek_add (ek_add (ek_add (ek_add (ek_add (ek_add (ek_base _ _ _) (good_21 N)) (good_14 N)) (good_22_v1 N)) (good_23 N)) (good_27_v1 N)) (good_24_v1 N)) (good_25 N)) (good_26 N)
def L_5 {R : Type} (N : Nat) : Loops R := LG_5 (l_5_12 N N)
theorem gstep_5_12 {R : Type} (q_21 : Tp_21 R) (q_14 : Tp_14 R) (q_22_v1 : Tp_22_v1 R) (q_23 : Tp_23 R) (q_27_v1 : Tp_27_v1 R) (q_24_v1 : Tp_24_v1 R) (q_25 : Tp_25 R) (q_26 : Tp_26 R) (m_5_12 : Tl_5_12 R) (n : Nat) (x : pt_5_12.den) (k : Exit → St → Option R) : iter 0 lv_5_12 lo_5_12 (aexec TT (EG_5 q_21 q_14 q_22_v1 q_23 q_27_v1 q_24_v1 q_25 q_26) (drawAny TT WW) (LG_5 m_5_12) (loopAt 12 (bodyOf Try.f5))) (n + 1) (pt_5_12.inst x) k = C_5_12 q_27_v1 q_24_v1 q_25 q_26 (fun y => iter 0 lv_5_12 lo_5_12 (aexec TT (EG_5 q_21 q_14 q_22_v1 q_23 q_27_v1 q_24_v1 q_25 q_26) (drawAny TT WW) (LG_5 m_5_12) (loopAt 12 (bodyOf Try.f5))) n (pt_5_12.inst y) k) x (fun y => k .ret (px_5_12_0.inst y)) (fun y => k (.exit 0) (px_5_12_1.inst y)) := by kernel_rfl
theorem step_5_12 {R : Type} (N n : Nat) (x : pt_5_12.den) (k : Exit → St → Option R) : iter 0 lv_5_12 lo_5_12 (aexec TT (E_5 (R := R) N) (drawAny TT WW) (L_5 N) (loopAt 12 (bodyOf Try.f5))) (n + 1) (pt_5_12.inst x) k = B_5_12 N (fun y => iter 0 lv_5_12 lo_5_12 (aexec TT (E_5 (R := R) N) (drawAny TT WW) (L_5 N) (loopAt 12 (bodyOf Try.f5))) n (pt_5_12.inst y) k) x (fun y => k .ret (px_5_12_0.inst y)) (fun y => k (.exit 0) (px_5_12_1.inst y)) := (gstep_5_12 (p_21 N) (p_14 N) (p_22_v1 N) (p_23 N) (p_27_v1 N) (p_24_v1 N) (p_25 N) (p_26 N) (l_5_12 N N) n x k).trans (by kernel_rfl)
theorem eq_5_12 {R : Type} (N : Nat) : ∀ (n : Nat) (x : pt_5_12.den) (k : Exit → St → Option R), iter 0 lv_5_12 lo_5_12 (aexec TT (E_5 (R := R) N) (drawAny TT WW) (L_5 N) (loopAt 12 (bodyOf Try.f5))) n (pt_5_12.inst x) k = l_5_12 N n x (fun y => k .ret (px_5_12_0.inst y)) (fun y => k (.exit 0) (px_5_12_1.inst y)) :=
  iter_eq (K := Exit → St → Option R) (ks := fun k => k) (l := fun n (x : pt_5_12.den) k => l_5_12 N n x (fun y => k .ret (px_5_12_0.inst y)) (fun y => k (.exit 0) (px_5_12_1.inst y))) (B := fun (rec : pt_5_12.den → Option R) (x : pt_5_12.den) k => B_5_12 N rec x (fun y => k .ret (px_5_12_0.inst y)) (fun y => k (.exit 0) (px_5_12_1.inst y))) (fun _ _ => rfl) (fun _ _ _ => rfl) (fun n x k => step_5_12 N n x k)
theorem rounds_5_12 {R : Type} (N : Nat) : Rounds 0 TT (E_5 (R := R) N) (drawAny TT WW) (L_5 N) 12 (loopAt 12 (bodyOf Try.f5)) :=
  rounds_of (p := pt_5_12) (l := fun (x : pt_5_12.den) k => l_5_12 N N x (fun y => k .ret (px_5_12_0.inst y)) (fun y => k (.exit 0) (px_5_12_1.inst y))) (fun s k => rfl) (fun x k => eq_5_12 N N x k)
theorem loops_5 : loopsIn (bodyOf Try.f5) = [(12, loopAt 12 (bodyOf Try.f5))] := by kernel_rfl
theorem lok_5 {R : Type} (N : Nat) : LOK 0 TT (E_5 (R := R) N) (drawAny TT WW) (L_5 N) (bodyOf Try.f5) := loops_all loops_5 (by
  simp only [List.forall_mem_cons, List.not_mem_nil, false_implies, implies_true, and_true]
  exact rounds_5_12 N)
theorem grun_5 {R : Type} (q_21 : Tp_21 R) (q_14 : Tp_14 R) (q_22_v1 : Tp_22_v1 R) (q_23 : Tp_23 R) (q_27_v1 : Tp_27_v1 R) (q_24_v1 : Tp_24_v1 R) (q_25 : Tp_25 R) (q_26 : Tp_26 R) (m_5_12 : Tl_5_12 R) (x : aden ap_5 × hden hp_5) (k : KF R) : fnrun TT (EG_5 q_21 q_14 q_22_v1 q_23 q_27_v1 q_24_v1 q_25 q_26) (drawAny TT WW) (LG_5 m_5_12) true Try.f5 (instA ap_5 x.1) (instH hp_5 x.2) k = Q_5 q_21 q_14 q_22_v1 q_23 q_27_v1 q_24_v1 q_25 q_26 m_5_12 x (fun y => k (Pat.inst (.bool) y.1) (instH [] y.2)) := by kernel_rfl
theorem run_5 {R : Type} (N : Nat) (x : aden ap_5 × hden hp_5) (k : KF R) : fnrun TT (E_5 (R := R) N) (drawAny TT WW) (L_5 N) true Try.f5 (instA ap_5 x.1) (instH hp_5 x.2) k = p_5 N x (fun y => k (Pat.inst (.bool) y.1) (instH [] y.2)) := (grun_5 (p_21 N) (p_14 N) (p_22_v1 N) (p_23 N) (p_27_v1 N) (p_24_v1 N) (p_25 N) (p_26 N) (l_5_12 N N) x k).trans (by kernel_rfl)
theorem good_5 {R : Type} (N : Nat) : GD (X := R) Try.prog QQ AA 5 ap_5 hp_5 (fun (x : aden ap_5 × hden hp_5) k => p_5 N x (fun y => k (Pat.inst (.bool) y.1) (instH [] y.2))) :=
  gd_loud (E := E_5 N) (p := fun (x : aden ap_5 × hden hp_5) k => p_5 N x (fun y => k (Pat.inst (.bool) y.1) (instH [] y.2))) mixed tyok (eok_5 N) Try.func5 (by kernel_rfl) (by kernel_rfl) (by kernel_rfl) (by kernel_rfl) (lok_5 N) (fun x k => run_5 N x k)

end Go.Proofs.Ytfcloeflcpcheaa.Eng

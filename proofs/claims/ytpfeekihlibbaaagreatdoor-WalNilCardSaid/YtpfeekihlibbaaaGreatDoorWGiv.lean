/-
  WAL: three functions of Go's library, by the kit's contracts, as the evaluator takes them: maps.Clone, slices.Sorted over maps.Keys, strconv.Atoi at a text that is no number.
-/
import Derived.Test.YtpfeekihlibbaaaGreatDoorWDef
import Derived.Shelf.SlMaps.Clone
import Derived.Shelf.Strconv.AtoiErr
import Derived.Shelf.SlIter.Sorted
import Derived.Shelf.SortM.Plain
import Derived.Shelf.SortM.SortNone
import Derived.StringKeys
namespace Go.Proofs.YtpfeekihlibbaaaGreatDoor
open Go.Shelf Go.RowKit Go.Proofs
def Tryz.cloneA_ren : Go.Shelf.Ren := ⟨fun | 5 => 22 | 7 => 55 | n => n, fun | 23 => 50 | 25 => 9 | 3 => 9 | 4 => 4 | 20 => 20 | n => n, fun | n => n⟩
theorem Tryz.cloneA : Go.Proofs.SlLaysW.n5 Tryz.prog Tryz.cloneA_ren := {
  mixed := by kernel_rfl,
  f5 := ⟨Tryz.f22.name, by decide, Tryz.func22.trans (congrArg some (by kernel_rfl))⟩,
  f7 := Tryz.func55.trans (congrArg some (by kernel_rfl)),
  t4 := Tryz.underlying4,
  a4 := Tryz.isAgg4,
  z4 := Tryz.sizeOf4,
  v4 := Tryz.zeroValue4,
  t20 := Tryz.underlying20,
  a20 := Tryz.isAgg20,
  z20 := Tryz.sizeOf20,
  v20 := Tryz.zeroValue20,
  t23 := Tryz.underlying50,
  a23 := Tryz.isAgg50,
  z23 := Tryz.sizeOf50,
  v23 := Tryz.zeroValue50 }
def Tryz.atoiA_ren : Go.Shelf.Ren := ⟨fun | 172 => 73 | 244 => 86 | 245 => 87 | 247 => 105 | 279 => 106 | 280 => 107 | 281 => 108 | 282 => 109 | 287 => 130 | 316 => 131 | 171 => 65 | 205 => 132 | 321 => 142 | 322 => 143 | 243 => 81 | 246 => 101 | 283 => 117 | 284 => 118 | 285 => 119 | 286 => 120 | 129 => 98 | 317 => 134 | 318 => 135 | 319 => 136 | 320 => 137 | 337 => 144 | 338 => 145 | n => n, fun | 9 => 9 | 3 => 3 | 75 => 111 | 76 => 112 | 4 => 4 | 5 => 5 | 167 => 139 | 37 => 90 | 0 => 0 | 85 => 140 | 2 => 2 | 168 => 142 | 53 => 64 | 175 => 161 | 46 => 91 | 210 => 164 | 127 => 174 | 145 => 177 | 143 => 175 | 21 => 21 | 171 => 152 | 173 => 154 | 212 => 169 | 51 => 88 | 20 => 20 | 213 => 170 | 232 => 179 | 233 => 180 | 80 => 181 | n => n, fun | 15 => 0 | 16 => 1 | 17 => 2 | 18 => 3 | 19 => 4 | n => n⟩
theorem Tryz.atoiA : Go.Proofs.LaysC.n172 Tryz.prog Tryz.atoiA_ren := {
  mixed := by kernel_rfl,
  f129 := Tryz.func98.trans (congrArg some (by kernel_rfl)),
  f171 := Tryz.func65.trans (congrArg some (by kernel_rfl)),
  f172 := Tryz.func73.trans (congrArg some (by kernel_rfl)),
  f205 := Tryz.func132.trans (congrArg some (by kernel_rfl)),
  f243 := Tryz.func81.trans (congrArg some (by kernel_rfl)),
  f244 := Tryz.func86.trans (congrArg some (by kernel_rfl)),
  f245 := Tryz.func87.trans (congrArg some (by kernel_rfl)),
  f246 := Tryz.func101.trans (congrArg some (by kernel_rfl)),
  f247 := Tryz.func105.trans (congrArg some (by kernel_rfl)),
  f279 := Tryz.func106.trans (congrArg some (by kernel_rfl)),
  f280 := Tryz.func107.trans (congrArg some (by kernel_rfl)),
  f281 := Tryz.func108.trans (congrArg some (by kernel_rfl)),
  f282 := Tryz.func109.trans (congrArg some (by kernel_rfl)),
  f283 := Tryz.func117.trans (congrArg some (by kernel_rfl)),
  f284 := Tryz.func118.trans (congrArg some (by kernel_rfl)),
  f285 := Tryz.func119.trans (congrArg some (by kernel_rfl)),
  f286 := Tryz.func120.trans (congrArg some (by kernel_rfl)),
  f287 := Tryz.func130.trans (congrArg some (by kernel_rfl)),
  f316 := Tryz.func131.trans (congrArg some (by kernel_rfl)),
  f317 := Tryz.func134.trans (congrArg some (by kernel_rfl)),
  f318 := Tryz.func135.trans (congrArg some (by kernel_rfl)),
  f319 := Tryz.func136.trans (congrArg some (by kernel_rfl)),
  f320 := Tryz.func137.trans (congrArg some (by kernel_rfl)),
  f321 := Tryz.func142.trans (congrArg some (by kernel_rfl)),
  f322 := Tryz.func143.trans (congrArg some (by kernel_rfl)),
  f337 := Tryz.func144.trans (congrArg some (by kernel_rfl)),
  f338 := Tryz.func145.trans (congrArg some (by kernel_rfl)),
  t0 := Tryz.underlying0,
  a0 := Tryz.isAgg0,
  z0 := Tryz.sizeOf0,
  v0 := Tryz.zeroValue0,
  t2 := Tryz.underlying2,
  a2 := Tryz.isAgg2,
  z2 := Tryz.sizeOf2,
  v2 := Tryz.zeroValue2,
  t3 := Tryz.underlying3,
  a3 := Tryz.isAgg3,
  z3 := Tryz.sizeOf3,
  v3 := Tryz.zeroValue3,
  t4 := Tryz.underlying4,
  a4 := Tryz.isAgg4,
  z4 := Tryz.sizeOf4,
  v4 := Tryz.zeroValue4,
  t5 := Tryz.underlying5,
  a5 := Tryz.isAgg5,
  z5 := Tryz.sizeOf5,
  v5 := Tryz.zeroValue5,
  t9 := Tryz.underlying9,
  a9 := Tryz.isAgg9,
  z9 := Tryz.sizeOf9,
  v9 := Tryz.zeroValue9,
  t20 := Tryz.underlying20,
  a20 := Tryz.isAgg20,
  z20 := Tryz.sizeOf20,
  v20 := Tryz.zeroValue20,
  t21 := Tryz.underlying21,
  a21 := Tryz.isAgg21,
  z21 := Tryz.sizeOf21,
  v21 := Tryz.zeroValue21,
  t37 := Tryz.underlying90,
  a37 := Tryz.isAgg90,
  z37 := Tryz.sizeOf90,
  v37 := Tryz.zeroValue90,
  t46 := Tryz.underlying91,
  a46 := Tryz.isAgg91,
  z46 := Tryz.sizeOf91,
  v46 := Tryz.zeroValue91,
  t51 := Tryz.underlying88,
  a51 := Tryz.isAgg88,
  z51 := Tryz.sizeOf88,
  v51 := Tryz.zeroValue88,
  t53 := Tryz.underlying64,
  a53 := Tryz.isAgg64,
  z53 := Tryz.sizeOf64,
  v53 := Tryz.zeroValue64,
  t75 := Tryz.underlying111,
  a75 := Tryz.isAgg111,
  z75 := Tryz.sizeOf111,
  v75 := Tryz.zeroValue111,
  t76 := Tryz.underlying112,
  a76 := Tryz.isAgg112,
  z76 := Tryz.sizeOf112,
  v76 := Tryz.zeroValue112,
  t85 := Tryz.underlying140,
  a85 := Tryz.isAgg140,
  z85 := Tryz.sizeOf140,
  v85 := Tryz.zeroValue140,
  t127 := Tryz.underlying174,
  a127 := Tryz.isAgg174,
  z127 := Tryz.sizeOf174,
  v127 := Tryz.zeroValue174,
  t143 := Tryz.underlying175,
  a143 := Tryz.isAgg175,
  z143 := Tryz.sizeOf175,
  v143 := Tryz.zeroValue175,
  t145 := Tryz.underlying177,
  a145 := Tryz.isAgg177,
  z145 := Tryz.sizeOf177,
  v145 := Tryz.zeroValue177,
  t167 := Tryz.underlying139,
  a167 := Tryz.isAgg139,
  z167 := Tryz.sizeOf139,
  v167 := Tryz.zeroValue139,
  t168 := Tryz.underlying142,
  a168 := Tryz.isAgg142,
  z168 := Tryz.sizeOf142,
  v168 := Tryz.zeroValue142,
  t171 := Tryz.underlying152,
  a171 := Tryz.isAgg152,
  z171 := Tryz.sizeOf152,
  v171 := Tryz.zeroValue152,
  t173 := Tryz.underlying154,
  a173 := Tryz.isAgg154,
  z173 := Tryz.sizeOf154,
  v173 := Tryz.zeroValue154,
  t175 := Tryz.underlying161,
  a175 := Tryz.isAgg161,
  z175 := Tryz.sizeOf161,
  v175 := Tryz.zeroValue161,
  t210 := Tryz.underlying164,
  a210 := Tryz.isAgg164,
  z210 := Tryz.sizeOf164,
  v210 := Tryz.zeroValue164,
  t212 := Tryz.underlying169,
  a212 := Tryz.isAgg169,
  z212 := Tryz.sizeOf169,
  v212 := Tryz.zeroValue169,
  t213 := Tryz.underlying170,
  a213 := Tryz.isAgg170,
  z213 := Tryz.sizeOf170,
  t232 := Tryz.underlying179,
  a232 := Tryz.isAgg179,
  z232 := Tryz.sizeOf179,
  v232 := Tryz.zeroValue179,
  t233 := Tryz.underlying180,
  a233 := Tryz.isAgg180,
  z233 := Tryz.sizeOf180,
  v233 := Tryz.zeroValue180,
  g15 := by kernel_rfl,
  g16 := by kernel_rfl,
  g17 := by kernel_rfl,
  g18 := by kernel_rfl,
  g19 := by kernel_rfl,
  t80 := Tryz.underlying181,
  a80 := Tryz.isAgg181,
  z80 := Tryz.sizeOf181,
  v80 := Tryz.zeroValue181,
  i0 := by kernel_rfl,
  i2 := by kernel_rfl,
  i3 := by kernel_rfl,
  i4 := by kernel_rfl,
  i5 := by kernel_rfl,
  i9 := by kernel_rfl,
  i20 := by kernel_rfl,
  i21 := by kernel_rfl,
  i37 := by kernel_rfl,
  i46 := by kernel_rfl,
  i51 := by kernel_rfl,
  i53 := by kernel_rfl,
  i75 := by kernel_rfl,
  i76 := by kernel_rfl,
  i80 := by kernel_rfl,
  i85 := by kernel_rfl,
  i127 := by kernel_rfl,
  i143 := by kernel_rfl,
  i145 := by kernel_rfl,
  i167 := by kernel_rfl,
  i168 := by kernel_rfl,
  i171 := by kernel_rfl,
  i173 := by kernel_rfl,
  i175 := by kernel_rfl,
  i210 := by kernel_rfl,
  i212 := by kernel_rfl,
  i232 := by kernel_rfl,
  i233 := by kernel_rfl,
  m15 := by kernel_rfl,
  m16 := by kernel_rfl,
  m17 := by kernel_rfl,
  m18 := by kernel_rfl,
  m19 := by kernel_rfl,
  c0 := by kernel_rfl,
  c2 := by kernel_rfl,
  c3 := by kernel_rfl,
  c4 := by kernel_rfl,
  c5 := by kernel_rfl,
  c9 := by kernel_rfl,
  c20 := by kernel_rfl,
  c21 := by kernel_rfl,
  c37 := by kernel_rfl,
  c46 := by kernel_rfl,
  c51 := by kernel_rfl,
  c53 := by kernel_rfl,
  c75 := by kernel_rfl,
  c76 := by kernel_rfl,
  c80 := by kernel_rfl,
  c85 := by kernel_rfl,
  c127 := by kernel_rfl,
  c143 := by kernel_rfl,
  c145 := by kernel_rfl,
  c167 := by kernel_rfl,
  c168 := by kernel_rfl,
  c171 := by kernel_rfl,
  c173 := by kernel_rfl,
  c175 := by kernel_rfl,
  c210 := by kernel_rfl,
  c212 := by kernel_rfl,
  c213 := by kernel_rfl,
  c232 := by kernel_rfl,
  c233 := by kernel_rfl }
def Tryz.keysA_ren : Go.Shelf.Ren := ⟨fun | 7 => 71 | 10 => 84 | n => n, fun | 23 => 50 | 26 => 9 | 3 => 9 | 28 => 107 | 0 => 0 | 27 => 106 | 33 => 117 | 4 => 4 | n => n, fun | n => n⟩
theorem Tryz.keysA : Go.Proofs.SlLaysZ.n7 Tryz.prog Tryz.keysA_ren := {
  mixed := by kernel_rfl,
  f7 := ⟨Tryz.f71.name, by decide, Tryz.func71.trans (congrArg some (by kernel_rfl))⟩,
  f10 := ⟨Tryz.f84.name, by decide, Tryz.func84.trans (congrArg some (by kernel_rfl))⟩,
  t0 := Tryz.underlying0,
  a0 := Tryz.isAgg0,
  z0 := Tryz.sizeOf0,
  v0 := Tryz.zeroValue0,
  t4 := Tryz.underlying4,
  a4 := Tryz.isAgg4,
  z4 := Tryz.sizeOf4,
  v4 := Tryz.zeroValue4,
  t23 := Tryz.underlying50,
  a23 := Tryz.isAgg50,
  z23 := Tryz.sizeOf50,
  v23 := Tryz.zeroValue50,
  t26 := Tryz.underlying9,
  a26 := Tryz.isAgg9,
  z26 := Tryz.sizeOf9,
  v26 := Tryz.zeroValue9,
  t27 := Tryz.underlying106,
  a27 := Tryz.isAgg106,
  z27 := Tryz.sizeOf106,
  v27 := Tryz.zeroValue106,
  t28 := Tryz.underlying107,
  a28 := Tryz.isAgg107,
  z28 := Tryz.sizeOf107,
  v28 := Tryz.zeroValue107,
  t33 := Tryz.underlying117,
  a33 := Tryz.isAgg117,
  z33 := Tryz.sizeOf117,
  v33 := Tryz.zeroValue117 }
def Tryz.sortedA_ren : Go.Shelf.Ren := ⟨fun | 6 => 70 | 8 => 82 | 9 => 83 | 11 => 102 | 13 => 75 | 12 => 103 | 23 => 97 | 24 => 98 | 14 => 121 | 15 => 122 | 16 => 123 | 17 => 124 | 18 => 125 | 19 => 126 | 20 => 127 | 21 => 128 | 22 => 129 | 25 => 138 | 26 => 111 | 27 => 112 | 28 => 139 | 29 => 140 | 30 => 141 | 31 => 146 | n => n, fun | 26 => 9 | 28 => 107 | 24 => 76 | 0 => 0 | 3 => 3 | 37 => 91 | 48 => 88 | 50 => 64 | 4 => 4 | 40 => 126 | 39 => 125 | 45 => 78 | 5 => 5 | 9 => 9 | 51 => 145 | 55 => 149 | 57 => 166 | 58 => 30 | 33 => 117 | n => n, fun | n => n⟩
theorem Tryz.sortedA : Go.Proofs.SlLaysZ.n6 Tryz.prog Tryz.sortedA_ren := {
  mixed := by kernel_rfl,
  f6 := ⟨Tryz.f70.name, by decide, Tryz.func70.trans (congrArg some (by kernel_rfl))⟩,
  f8 := ⟨Tryz.f82.name, by decide, Tryz.func82.trans (congrArg some (by kernel_rfl))⟩,
  f11 := ⟨Tryz.f102.name, by decide, Tryz.func102.trans (congrArg some (by kernel_rfl))⟩,
  t0 := Tryz.underlying0,
  a0 := Tryz.isAgg0,
  z0 := Tryz.sizeOf0,
  v0 := Tryz.zeroValue0,
  t24 := Tryz.underlying76,
  a24 := Tryz.isAgg76,
  z24 := Tryz.sizeOf76,
  v24 := Tryz.zeroValue76,
  t26 := Tryz.underlying9,
  a26 := Tryz.isAgg9,
  z26 := Tryz.sizeOf9,
  v26 := Tryz.zeroValue9,
  t28 := Tryz.underlying107,
  a28 := Tryz.isAgg107,
  z28 := Tryz.sizeOf107,
  v28 := Tryz.zeroValue107,
  i26 := by kernel_rfl }
def Tryz.sortA_ren : Go.Shelf.Ren := ⟨fun | 6 => 83 | 8 => 75 | 9 => 103 | 19 => 97 | 20 => 98 | 21 => 121 | 22 => 122 | 23 => 123 | 24 => 124 | 25 => 125 | 26 => 126 | 27 => 127 | 28 => 128 | 29 => 129 | 36 => 138 | 31 => 111 | 32 => 112 | 37 => 139 | 38 => 140 | 39 => 141 | 41 => 146 | n => n, fun | 27 => 76 | 29 => 9 | 3 => 3 | 32 => 91 | 26 => 76 | 0 => 0 | 44 => 88 | 46 => 64 | 4 => 4 | 36 => 126 | 35 => 125 | 41 => 78 | 5 => 5 | 9 => 9 | 53 => 145 | 57 => 149 | 63 => 166 | 64 => 30 | n => n, fun | n => n⟩
theorem Tryz.sortA : Go.Proofs.SlLaysM.n6 Tryz.prog Tryz.sortA_ren := {
  mixed := by kernel_rfl,
  f6 := ⟨Tryz.f83.name, by decide, Tryz.func83.trans (congrArg some (by kernel_rfl))⟩,
  f8 := Tryz.func75.trans (congrArg some (by kernel_rfl)),
  f9 := ⟨Tryz.f103.name, by decide, Tryz.func103.trans (congrArg some (by kernel_rfl))⟩,
  f19 := Tryz.func97.trans (congrArg some (by kernel_rfl)),
  f20 := Tryz.func98.trans (congrArg some (by kernel_rfl)),
  f21 := ⟨Tryz.f121.name, by decide, Tryz.func121.trans (congrArg some (by kernel_rfl))⟩,
  f22 := ⟨Tryz.f122.name, by decide, Tryz.func122.trans (congrArg some (by kernel_rfl))⟩,
  f23 := ⟨Tryz.f123.name, by decide, Tryz.func123.trans (congrArg some (by kernel_rfl))⟩,
  f24 := ⟨Tryz.f124.name, by decide, Tryz.func124.trans (congrArg some (by kernel_rfl))⟩,
  f25 := ⟨Tryz.f125.name, by decide, Tryz.func125.trans (congrArg some (by kernel_rfl))⟩,
  f26 := ⟨Tryz.f126.name, by decide, Tryz.func126.trans (congrArg some (by kernel_rfl))⟩,
  f27 := ⟨Tryz.f127.name, by decide, Tryz.func127.trans (congrArg some (by kernel_rfl))⟩,
  f28 := ⟨Tryz.f128.name, by decide, Tryz.func128.trans (congrArg some (by kernel_rfl))⟩,
  f29 := ⟨Tryz.f129.name, by decide, Tryz.func129.trans (congrArg some (by kernel_rfl))⟩,
  f31 := Tryz.func111.trans (congrArg some (by kernel_rfl)),
  f32 := Tryz.func112.trans (congrArg some (by kernel_rfl)),
  f36 := ⟨Tryz.f138.name, by decide, Tryz.func138.trans (congrArg some (by kernel_rfl))⟩,
  f37 := ⟨Tryz.f139.name, by decide, Tryz.func139.trans (congrArg some (by kernel_rfl))⟩,
  f38 := ⟨Tryz.f140.name, by decide, Tryz.func140.trans (congrArg some (by kernel_rfl))⟩,
  f39 := ⟨Tryz.f141.name, by decide, Tryz.func141.trans (congrArg some (by kernel_rfl))⟩,
  f41 := ⟨Tryz.f146.name, by decide, Tryz.func146.trans (congrArg some (by kernel_rfl))⟩,
  t0 := Tryz.underlying0,
  a0 := Tryz.isAgg0,
  z0 := Tryz.sizeOf0,
  v0 := Tryz.zeroValue0,
  t3 := Tryz.underlying3,
  a3 := Tryz.isAgg3,
  z3 := Tryz.sizeOf3,
  v3 := Tryz.zeroValue3,
  t4 := Tryz.underlying4,
  a4 := Tryz.isAgg4,
  z4 := Tryz.sizeOf4,
  v4 := Tryz.zeroValue4,
  t5 := Tryz.underlying5,
  a5 := Tryz.isAgg5,
  z5 := Tryz.sizeOf5,
  v5 := Tryz.zeroValue5,
  t9 := Tryz.underlying9,
  a9 := Tryz.isAgg9,
  z9 := Tryz.sizeOf9,
  v9 := Tryz.zeroValue9,
  t26 := Tryz.underlying76,
  a26 := Tryz.isAgg76,
  z26 := Tryz.sizeOf76,
  v26 := Tryz.zeroValue76,
  t27 := Tryz.underlying76,
  a27 := Tryz.isAgg76,
  z27 := Tryz.sizeOf76,
  v27 := Tryz.zeroValue76,
  t29 := Tryz.underlying9,
  a29 := Tryz.isAgg9,
  z29 := Tryz.sizeOf9,
  v29 := Tryz.zeroValue9,
  t32 := Tryz.underlying91,
  a32 := Tryz.isAgg91,
  z32 := Tryz.sizeOf91,
  v32 := Tryz.zeroValue91,
  t35 := Tryz.underlying125,
  a35 := Tryz.isAgg125,
  z35 := Tryz.sizeOf125,
  v35 := Tryz.zeroValue125,
  t36 := Tryz.underlying126,
  a36 := Tryz.isAgg126,
  z36 := Tryz.sizeOf126,
  v36 := Tryz.zeroValue126,
  t41 := Tryz.underlying78,
  a41 := Tryz.isAgg78,
  z41 := Tryz.sizeOf78,
  v41 := Tryz.zeroValue78,
  t44 := Tryz.underlying88,
  a44 := Tryz.isAgg88,
  z44 := Tryz.sizeOf88,
  v44 := Tryz.zeroValue88,
  t46 := Tryz.underlying64,
  a46 := Tryz.isAgg64,
  z46 := Tryz.sizeOf64,
  v46 := Tryz.zeroValue64,
  t53 := Tryz.underlying145,
  a53 := Tryz.isAgg145,
  z53 := Tryz.sizeOf145,
  v53 := Tryz.zeroValue145,
  t57 := Tryz.underlying149,
  a57 := Tryz.isAgg149,
  z57 := Tryz.sizeOf149,
  v57 := Tryz.zeroValue149,
  t63 := Tryz.underlying166,
  a63 := Tryz.isAgg166,
  z63 := Tryz.sizeOf166,
  v63 := Tryz.zeroValue166,
  t64 := Tryz.underlying30,
  a64 := Tryz.isAgg30,
  z64 := Tryz.sizeOf30,
  v64 := Tryz.zeroValue30 }

end Go.Proofs.YtpfeekihlibbaaaGreatDoor
namespace Go.Proofs.YtpfeekihlibbaaaGreatDoor.TV
open Go Go.RowKit Go.Shelf Go.Maps Go.Sort Go.Proofs Go.WideShapes Go.WideElems Go.WideMaps
set_option linter.unusedVariables false
set_option linter.unusedSimpArgs false
set_option maxRecDepth 100000

theorem cloned_ok {args : List TV} {s s' : St} {v : TV} (h : clonedT args s = some (v, s')) : Sim Tryz.prog 22 args s v s' := by
  unfold clonedT at h
  split at h
  · rename_i o
    split at h
    · rename_i es c ho
      cases h
      refine ⟨⟨_, _, Tryz.func22, rfl⟩, fun g w rargs hR hA => ?_⟩
      cases hA with
      | cons rv _ _ _ r rs =>
        cases rs
        cases r with
        | map _ b e =>
          obtain ⟨ob, h1, h2⟩ := hR.obj o b e
          rw [ho] at h1
          cases h1
          obtain ⟨rs, h3, h4⟩ := h2
          have hc := AnyW.maps_Clone Tryz.cloneA b rs c w h3
          refine Calls.mono hc fun e' w' ⟨he, hw⟩ => ?_
          subst hw
          obtain ⟨k1, k2, k3⟩ := hR.newObj ((Below.refl _ w).alloc (Nat.le_refl _) (.map rs c)) (Nat.le_refl _) (ob := .map es c) ⟨rs, heap_alloc_new w _, h4⟩
          exact ⟨_, _, he, k1, k2, .map _ _ k3⟩
    · cases h
  · cases h
theorem atoi_ok {args : List TV} {s s' : St} {v : TV} (h : atoiT args s = some (v, s')) : Sim Tryz.prog 73 args s v s' := by
  unfold atoiT at h
  split at h
  · rename_i l
    split at h
    · rename_i hl
      cases h
      subst hl
      refine ⟨⟨_, _, Tryz.func73, rfl⟩, fun g w rargs hR hA => ?_⟩
      cases hA with
      | cons rv _ _ _ r rs =>
        cases rs
        cases r with
        | str sb _ e =>
          obtain ⟨h0, tp, p, hv⟩ := g.hV
          have hv' : w.cell? ⟨0, 0, none⟩ = some (.iface tp p) := (hR.below.cell (p := ⟨0, 0, none⟩) h0).trans hv
          have hsz : sb.size = 4 := by
            have := congrArg List.length e
            simpa using this
          have hc := Any.strconv_Atoi_err Tryz.atoiA sb (by omega) (by rw [e]; decide) (.iface tp p) w hv' (.inr ⟨tp, p, rfl⟩)
          refine Calls.mono hc fun e' w' ⟨N, he, _, _, hB⟩ => ?_
          exact ⟨_, g, he, .refl g, hR.keep hB, .tup _ _ (.cons _ _ _ _ (.int _ _) (.cons _ _ _ _ (.iface _ _ _ (.junk _)) .nil))⟩
    · cases h
  · cases h

/-! ### Keys, rising -/
theorem insT_perm (x : List UInt8) : ∀ l, (insT x l).Perm (x :: l)
  | [] => .refl _
  | y :: l => by
    unfold insT
    split
    · exact .refl _
    · exact ((insT_perm x l).cons y).trans (.swap x y l)
theorem sortT_perm : ∀ l, (sortT l).Perm l
  | [] => .refl _
  | x :: l => (insT_perm x _).trans ((sortT_perm l).cons x)
theorem insT_sorted {x : List UInt8} : ∀ {l : List (List UInt8)}, l.Pairwise (fun a b => leB a b = true) → (insT x l).Pairwise (fun a b => leB a b = true)
  | [], _ => by simp [insT]
  | y :: l, h => by
    unfold insT
    rw [List.pairwise_cons] at h
    split
    · rename_i hxy
      refine List.pairwise_cons.2 ⟨fun z hz => ?_, List.pairwise_cons.2 h⟩
      rcases List.mem_cons.1 hz with rfl | hz
      · simpa [leB] using hxy
      · have := h.1 z hz
        simp only [leB, decide_eq_true_eq] at this ⊢
        exact List.le_trans hxy this
    · rename_i hxy
      refine List.pairwise_cons.2 ⟨fun z hz => ?_, insT_sorted h.2⟩
      rcases List.mem_cons.1 ((insT_perm x l).mem_iff.1 hz) with rfl | hz
      · have := List.le_total z y
        simp only [leB, decide_eq_true_eq]
        rcases this with k | k
        · exact absurd k hxy
        · exact k
      · exact h.1 z hz
theorem sortT_sorted : ∀ l : List (List UInt8), (sortT l).Pairwise (fun a b => leB a b = true)
  | [] => .nil
  | x :: l => insT_sorted (sortT_sorted l)
theorem sortT_eq {l l' : List (List UInt8)} (h : l'.Perm l) : l'.mergeSort leB = sortT l := by
  have tr : ∀ a b c : List UInt8, leB a b = true → leB b c = true → leB a c = true := fun a b c h1 h2 => by simp only [leB, decide_eq_true_eq] at *; exact List.le_trans h1 h2
  have to : ∀ a b : List UInt8, (leB a b || leB b a) = true := fun a b => by simp only [leB, Bool.or_eq_true, decide_eq_true_eq]; exact List.le_total a b
  refine List.Perm.eq_of_pairwise (le := fun a b => leB a b = true) (fun a b _ _ h1 h2 => ?_) (List.pairwise_mergeSort tr to l') (sortT_sorted l) (((List.mergeSort_perm l' leB).trans h).trans (sortT_perm l).symm)
  simp only [leB, decide_eq_true_eq] at h1 h2
  exact List.le_antisymm h1 h2
/-- What each value reads as does not matter. -/
def anyR : Value → Option (DataW Unit × List MemPlace) := fun _ => some (.nil, [])
theorem keys_rel {g : G} : ∀ {rs : List MapEntry} {es : List (TV × TV × Nat)} {l : List (List UInt8)}, EntRel g rs es → keysT es = some l → rs.map (·.key) = l.map Go.Proofs.encStr ∧ rs.map (·.born) = es.map (fun e => e.2.2) ∧ rs.length = es.length
  | [], [], l, h, hk => by
    cases hk
    exact ⟨rfl, rfl, rfl⟩
  | e :: rs, (k, v, n) :: es, l, h, hk => by
    cases h with
    | cons _ _ _ _ _ _ h1 h2 h3 h4 =>
      cases k with
      | str x =>
        simp only [keysT] at hk
        split at hk
        · rename_i l' hl
          cases hk
          obtain ⟨i1, i2, i3⟩ := keys_rel h4 hl
          cases hkv : e.key <;> rw [hkv] at h1 <;> cases h1
          rename_i sb hsb
          refine ⟨?_, ?_, ?_⟩
          · simp only [List.map_cons, i1, hkv, ← hsb]
          · simp only [List.map_cons, i2, h3]
          · simp only [List.length_cons, i3]
        · cases hk
      | _ => cases hk
  | [], _ :: _, _, h, _ => by cases h
  | _ :: _, [], _, h, _ => by cases h
theorem sorts (m : Nat) : AnyZ.SortsIn Tryz.prog Tryz.sortedA_ren Fence.wide m :=
  ⟨fun blk off cap ss W hH hblk hsz => callsIn_wide.2 (AnyM.slices_Sort_string Tryz.sortA blk off cap ss W hH hblk hsz),
   fun p cap W => callsIn_wide.2 (AnyM.slices_Sort_string_none Tryz.sortA p cap W)⟩
theorem len_of_keys : ∀ {es : List (TV × TV × Nat)} {l : List (List UInt8)}, keysT es = some l → l.length = es.length
  | [], l, h => by cases h; rfl
  | (k, v) :: es, l, h => by
    cases k with
    | str x =>
      simp only [keysT] at h
      split at h
      · rename_i l' hl
        cases h
        simp [len_of_keys hl]
      · cases h
    | _ => cases h
set_option maxHeartbeats 1000000 in
theorem sorted_ok {args : List TV} {s s' : St} {v : TV} (h : sortedT args s = some (v, s')) : Sim Tryz.prog 70 args s v s' := by
  unfold sortedT at h
  split at h
  · rename_i f o
    split at h
    · rename_i hf
      subst hf
      split at h
      · rename_i m t ho
        split at h
        · rename_i ht
          subst ht
          split at h
          · rename_i es c hm
            split at h
            · rename_i hlen
              split at h
              · rename_i l hk
                split at h
                · rename_i hst
                  cases h
                  simp only [Bool.and_eq_true, List.all_eq_true, decide_eq_true_eq] at hst
                  obtain ⟨⟨⟨hs1, hs2⟩, hs3⟩, hs4⟩ := hst
                  refine ⟨⟨_, _, Tryz.func70, rfl⟩, fun g w rargs hR hA => ?_⟩
                  cases hA with
                  | cons rv _ _ _ r rs =>
                    cases rs
                    cases r with
                    | fn _ a' c' _ _ ra rc =>
                      obtain ⟨a'⟩ := a'
                      obtain ⟨c'⟩ := c'
                      cases ra
                      cases rc with
                      | cons pv _ _ _ rp rps =>
                        cases rps
                        cases rp with
                        | ptr _ b _ e =>
                          obtain ⟨ob, h1, h2⟩ := hR.obj o b e
                          rw [ho] at h1
                          cases h1
                          obtain ⟨vs, h3, h4⟩ := h2
                          obtain ⟨mv, hmv, rm⟩ := h4.get (i := 0) rfl
                          cases hmx : mv <;> rw [hmx] at rm <;> cases rm
                          rename_i mb hmb
                          subst hmx
                          have hcell : w.cell? ⟨b, 0, none⟩ = some (.map (some mb)) := by
                            rw [List.getElem?_take] at hmv
                            simp only [List.length_cons, List.length_nil, Nat.zero_add, Nat.lt_succ_self, if_true] at hmv
                            simp [World.cell?, h3]
                            simpa using hmv
                          obtain ⟨ob2, h5, h6⟩ := hR.obj m mb hmb
                          rw [hm] at h5
                          cases h5
                          obtain ⟨rs, h7, h8⟩ := h6
                          obtain ⟨q1, q2, q3⟩ := keys_rel h8 hk
                          have hll := len_of_keys hk
                          have hrs : rs.size = es.length := by simpa using q3
                          have hread : ∀ x ∈ rs.toList, ∃ k, x.key = Go.Proofs.encStr k ∧ k.length ≤ 1000 := by
                            intro x hx
                            have hm : x.key ∈ rs.toList.map (·.key) := List.mem_map.2 ⟨x, hx, rfl⟩
                            rw [q1] at hm
                            obtain ⟨k, hk1, hk2⟩ := List.mem_map.1 hm
                            exact ⟨k, hk2.symm, by simpa using hs4 k hk1⟩
                          have hmax : (1000 : Nat) ≤ maxLen := by decide
                          have hrd : ∀ x ∈ rs.toList, ∀ k, x.key = Go.Proofs.encStr k → k.length ≤ 1000 → rd Tryz.prog 9 anyR x = some (.string k, .nil) := by
                            intro x hx k hxk hkl
                            obtain ⟨key, val, born⟩ := x
                            simp only at hxk
                            subst hxk
                            have hkey : keyOf Tryz.prog 9 (Go.Proofs.encStr k) = some (.string k) := by
                              have := keyOf_string_mk (s := ⟨k.toArray⟩) Tryz.underlying9 (by
                                show k.toArray.size ≤ maxLen
                                rw [List.size_toArray]
                                omega)
                              simpa using this
                            exact rd_mk (R := anyR) (yv := (.nil, [])) (val := val) (born := born) hkey rfl
                          have hown : w.ownsMap Tryz.prog 9 anyR mb es.length (.map ((rs.toList.map (rg Tryz.prog 9 anyR)).foldr DataW.insert [])) := by
                            refine ⟨rs, c, h7, ⟨by omega, ⟨fun x hx => ?_, ?_, ?_⟩, fun x hx => ?_⟩, by omega, rfl⟩
                            · have hm : x.born ∈ rs.toList.map (·.born) := List.mem_map.2 ⟨x, hx, rfl⟩
                              rw [q2] at hm
                              obtain ⟨y, hy1, hy2⟩ := List.mem_map.1 hm
                              rw [← hy2]
                              exact hs1 y hy1
                            · rw [q2]; exact hs2
                            · rw [q1]
                              exact List.pairwise_map.2 (hs3.imp fun hne he => hne (encStr_inj he))
                            · obtain ⟨k, hk1, hk2⟩ := hread x hx
                              exact ⟨_, hrd x hx k hk1 hk2⟩
                          have hsize : ((rs.toList.map (rg Tryz.prog 9 anyR)).foldr DataW.insert []).length = es.length := by
                            rw [(sorted_perm _).length_eq, List.length_map]
                            exact q3
                          have hperm : (strKeys (.map ((rs.toList.map (rg Tryz.prog 9 anyR)).foldr DataW.insert []))).Perm l := by
                            have e1 : (rs.toList.map (rg Tryz.prog 9 anyR)).map (fun p => strOf p.1) = l := by
                              have e2 : (rs.toList.map (rg Tryz.prog 9 anyR)).map (fun p => strOf p.1) = (rs.toList.map (·.key)).map (fun v => match v with
                                  | .string s => s.data.toList
                                  | _ => []) := by
                                rw [List.map_map, List.map_map]
                                refine List.map_congr_left fun x hx => ?_
                                obtain ⟨k, hk1, hk2⟩ := hread x hx
                                simp only [Function.comp, rg_of (hrd x hx k hk1 hk2), hk1, strOf]
                              rw [e2, q1, List.map_map]
                              simp only [Function.comp_def]
                              exact List.map_id' l
                            have := (sorted_perm (rs.toList.map (rg Tryz.prog 9 anyR))).map (fun p => strOf p.1)
                            rw [e1] at this
                            exact this
                          have hb : b < w.heap.size := hR.obj_lt e
                          have hseq := AnyZ.keys_gives (ρ := Tryz.keysA_ren) { Tryz.keysA with } Fence.wide 2 trivial rfl (by omega) b mb es.length _ w hb hcell hown
                          have cS := AnyZ.sorted_in Tryz.sortedA Fence.wide 5 trivial trivial trivial trivial rfl (by omega) (sorts _) (enters_of Tryz.func83 (by kernel_rfl) rfl) 84 #[.pointer (some ⟨b, 0, none⟩)] trivial (enters_of Tryz.func84 (by kernel_rfl) rfl) _ _ (by
                              show ((rs.toList.map (rg Tryz.prog 9 anyR)).foldr DataW.insert []).length ≤ maxLen
                              omega) (by
                              show ((rs.toList.map (rg Tryz.prog 9 anyR)).foldr DataW.insert []).length * 16 ≤ _
                              omega) w hseq
                          have cS' : Calls Tryz.prog 70 _ w _ := (callsIn_wide (n := 5)).1 cS
                          refine Calls.mono cS' fun e' w' ⟨v, ss, he, hS, hrow, hnil, hB⟩ => ?_
                          have hss : ss.mergeSort (fun x y => decide (x ≤ y)) = sortT l := sortT_eq (hS.trans hperm)
                          rw [hss] at hrow
                          rcases hrow.2 with ⟨hv, hz⟩ | ⟨gb, cap, cur, hv, hbase, hgb, r1, r2, r3, r4⟩
                          · have hss0 : ss = [] := List.eq_nil_of_length_eq_zero hz
                            have hl0 : l = [] := by
                              have := (hS.trans hperm)
                              rw [hss0] at this
                              exact this.symm.eq_nil
                            subst hl0
                            refine ⟨v, g, he, .refl g, hR.keep hB, ?_⟩
                            rw [hv]
                            exact .nils _ (fun i e => by cases e)
                          · have hne : l ≠ [] := by
                              intro hl0
                              have : ss = [] := by
                                have h9 := hS.trans hperm
                                rw [hl0] at h9
                                exact h9.eq_nil
                              have h10 := hnil.2 this
                              rw [hv] at h10
                              cases h10
                            have hlen2 : ss.length = (sortT l).length := by rw [← hss, List.length_mergeSort]
                            obtain ⟨k1, k2, k3⟩ := hR.newData hB hbase (vs := (sortT l).map Go.Proofs.encStr) (fun i v hi => by
                              rw [← r4, Nat.mul_one] at hi
                              rw [List.getElem?_take] at hi
                              split at hi
                              · simp [World.cell?, hgb]
                                simpa using hi
                              · cases hi)
                            refine ⟨v, _, he, k1, k2, ?_⟩
                            rw [hv]
                            have hemp : l.isEmpty = false := by
                              cases l with
                              | nil => exact absurd rfl hne
                              | cons _ _ => rfl
                            rw [hemp]
                            have hsne : sortT l ≠ [] := by
                              intro h0
                              have := (sortT_perm l).symm
                              rw [h0] at this
                              exact hne this.eq_nil
                            refine .slice gb 0 ss.length cap 1 _ _ _ (by simpa using hsne) (by simp [hlen2]) r1 (by omega) (fun x hx => ?_) k3 ?_ trivial
                            · obtain ⟨k, _, rfl⟩ := List.mem_map.1 hx
                              rfl
                            · have this : ∀ (g : G) (L : List (List UInt8)), VRels g (L.map Go.Proofs.encStr) ((L.map TV.str).flatMap TV.cells) := by
                                intro g L
                                induction L with
                                | nil => exact .nil
                                | cons k L ih => exact .cons _ _ _ _ (.str _ _ (by simp)) ih
                              exact this _ _
                · cases h
              · cases h
            · cases h
          · cases h
        · cases h
      · cases h
    · cases h
  · cases h
end Go.Proofs.YtpfeekihlibbaaaGreatDoor.TV

/-
  WAL: where this program holds functions of Go's library that the kit's contracts speak of. (5 texts, one behind the other)
-/
import Derived.Test.YthnhbejjikgifaaGreatDoorProg
import Derived.KernelRfl
import Derived.Shelf.SlMaps.Clone
import Derived.Shelf.Strconv.AtoiAll
import Derived.Shelf.Strconv.Itoa3
import Derived.Shelf.SlIter.Sorted
import Derived.Shelf.SortM.Plain
import Derived.Shelf.SortM.SortNone
import Derived.StringKeys
import Derived.Test.YthnhbejjikgifaaGreatDoorM09
import Derived.Test.YthnhbejjikgifaaGreatDoorM03
import Derived.Test.YthnhbejjikgifaaGreatDoorM06

namespace Go.Proofs.YthnhbejjikgifaaGreatDoor
open Go.Shelf Go.RowKit Go.Proofs
set_option maxRecDepth 100000
def Tryz.cloneA_ren : Go.Shelf.Ren := ⟨fun | 5 => 47 | 7 => 98 | n => n, fun | 23 => 67 | 25 => 9 | 3 => 9 | 4 => 4 | 20 => 20 | n => n, fun | n => n⟩
theorem Tryz.cloneA : Go.Proofs.SlLaysW.n5 Tryz.prog Tryz.cloneA_ren := {
  mixed := by kernel_rfl,
  f5 := ⟨Tryz.f47.name, by decide, Tryz.func47.trans (congrArg some (by kernel_rfl))⟩,
  f7 := Tryz.func98.trans (congrArg some (by kernel_rfl)),
  t4 := Tryz.underlying4,
  a4 := Tryz.isAgg4,
  z4 := Tryz.sizeOf4,
  v4 := Tryz.zeroValue4,
  t20 := Tryz.underlying20,
  a20 := Tryz.isAgg20,
  z20 := Tryz.sizeOf20,
  v20 := Tryz.zeroValue20,
  t23 := Tryz.underlying67,
  a23 := Tryz.isAgg67,
  z23 := Tryz.sizeOf67,
  v23 := Tryz.zeroValue67 }
def Tryz.keysA_ren : Go.Shelf.Ren := ⟨fun | 7 => 101 | 10 => 131 | n => n, fun | 23 => 67 | 26 => 9 | 3 => 9 | 28 => 149 | 0 => 0 | 27 => 148 | 33 => 184 | 4 => 4 | n => n, fun | n => n⟩
theorem Tryz.keysA : Go.Proofs.SlLaysZ.n7 Tryz.prog Tryz.keysA_ren := {
  mixed := by kernel_rfl,
  f7 := ⟨Tryz.f101.name, by decide, Tryz.func101.trans (congrArg some (by kernel_rfl))⟩,
  f10 := ⟨Tryz.f131.name, by decide, Tryz.func131.trans (congrArg some (by kernel_rfl))⟩,
  t0 := Tryz.underlying0,
  a0 := Tryz.isAgg0,
  z0 := Tryz.sizeOf0,
  v0 := Tryz.zeroValue0,
  t4 := Tryz.underlying4,
  a4 := Tryz.isAgg4,
  z4 := Tryz.sizeOf4,
  v4 := Tryz.zeroValue4,
  t23 := Tryz.underlying67,
  a23 := Tryz.isAgg67,
  z23 := Tryz.sizeOf67,
  v23 := Tryz.zeroValue67,
  t26 := Tryz.underlying9,
  a26 := Tryz.isAgg9,
  z26 := Tryz.sizeOf9,
  v26 := Tryz.zeroValue9,
  t27 := Tryz.underlying148,
  a27 := Tryz.isAgg148,
  z27 := Tryz.sizeOf148,
  v27 := Tryz.zeroValue148,
  t28 := Tryz.underlying149,
  a28 := Tryz.isAgg149,
  z28 := Tryz.sizeOf149,
  v28 := Tryz.zeroValue149,
  t33 := Tryz.underlying184,
  a33 := Tryz.isAgg184,
  z33 := Tryz.sizeOf184,
  v33 := Tryz.zeroValue184 }
def Tryz.sortedA_ren : Go.Shelf.Ren := ⟨fun | 6 => 100 | 8 => 129 | 9 => 130 | 11 => 153 | 13 => 123 | 12 => 154 | 23 => 149 | 24 => 150 | 14 => 170 | 15 => 171 | 16 => 172 | 17 => 173 | 18 => 174 | 19 => 175 | 20 => 176 | 21 => 177 | 22 => 178 | 25 => 187 | 26 => 164 | 27 => 165 | 28 => 188 | 29 => 189 | 30 => 190 | 31 => 197 | n => n, fun | 26 => 9 | 28 => 149 | 24 => 98 | 0 => 0 | 3 => 3 | 37 => 180 | 48 => 154 | 50 => 139 | 4 => 4 | 40 => 195 | 39 => 194 | 45 => 102 | 5 => 5 | 9 => 9 | 51 => 214 | 55 => 218 | 57 => 235 | 58 => 37 | 33 => 184 | n => n, fun | n => n⟩
theorem Tryz.sortedA : Go.Proofs.SlLaysZ.n6 Tryz.prog Tryz.sortedA_ren := {
  mixed := by kernel_rfl,
  f6 := ⟨Tryz.f100.name, by decide, Tryz.func100.trans (congrArg some (by kernel_rfl))⟩,
  f8 := ⟨Tryz.f129.name, by decide, Tryz.func129.trans (congrArg some (by kernel_rfl))⟩,
  f11 := ⟨Tryz.f153.name, by decide, Tryz.func153.trans (congrArg some (by kernel_rfl))⟩,
  t0 := Tryz.underlying0,
  a0 := Tryz.isAgg0,
  z0 := Tryz.sizeOf0,
  v0 := Tryz.zeroValue0,
  t24 := Tryz.underlying98,
  a24 := Tryz.isAgg98,
  z24 := Tryz.sizeOf98,
  v24 := Tryz.zeroValue98,
  t26 := Tryz.underlying9,
  a26 := Tryz.isAgg9,
  z26 := Tryz.sizeOf9,
  v26 := Tryz.zeroValue9,
  t28 := Tryz.underlying149,
  a28 := Tryz.isAgg149,
  z28 := Tryz.sizeOf149,
  v28 := Tryz.zeroValue149,
  i26 := by kernel_rfl }
def Tryz.sortA_ren : Go.Shelf.Ren := ⟨fun | 6 => 130 | 8 => 123 | 9 => 154 | 19 => 149 | 20 => 150 | 21 => 170 | 22 => 171 | 23 => 172 | 24 => 173 | 25 => 174 | 26 => 175 | 27 => 176 | 28 => 177 | 29 => 178 | 36 => 187 | 31 => 164 | 32 => 165 | 37 => 188 | 38 => 189 | 39 => 190 | 41 => 197 | n => n, fun | 27 => 98 | 29 => 9 | 3 => 3 | 32 => 180 | 26 => 98 | 0 => 0 | 44 => 154 | 46 => 139 | 4 => 4 | 36 => 195 | 35 => 194 | 41 => 102 | 5 => 5 | 9 => 9 | 53 => 214 | 57 => 218 | 63 => 235 | 64 => 37 | n => n, fun | n => n⟩
theorem Tryz.sortA : Go.Proofs.SlLaysM.n6 Tryz.prog Tryz.sortA_ren := {
  mixed := by kernel_rfl,
  f6 := ⟨Tryz.f130.name, by decide, Tryz.func130.trans (congrArg some (by kernel_rfl))⟩,
  f8 := Tryz.func123.trans (congrArg some (by kernel_rfl)),
  f9 := ⟨Tryz.f154.name, by decide, Tryz.func154.trans (congrArg some (by kernel_rfl))⟩,
  f19 := Tryz.func149.trans (congrArg some (by kernel_rfl)),
  f20 := Tryz.func150.trans (congrArg some (by kernel_rfl)),
  f21 := ⟨Tryz.f170.name, by decide, Tryz.func170.trans (congrArg some (by kernel_rfl))⟩,
  f22 := ⟨Tryz.f171.name, by decide, Tryz.func171.trans (congrArg some (by kernel_rfl))⟩,
  f23 := ⟨Tryz.f172.name, by decide, Tryz.func172.trans (congrArg some (by kernel_rfl))⟩,
  f24 := ⟨Tryz.f173.name, by decide, Tryz.func173.trans (congrArg some (by kernel_rfl))⟩,
  f25 := ⟨Tryz.f174.name, by decide, Tryz.func174.trans (congrArg some (by kernel_rfl))⟩,
  f26 := ⟨Tryz.f175.name, by decide, Tryz.func175.trans (congrArg some (by kernel_rfl))⟩,
  f27 := ⟨Tryz.f176.name, by decide, Tryz.func176.trans (congrArg some (by kernel_rfl))⟩,
  f28 := ⟨Tryz.f177.name, by decide, Tryz.func177.trans (congrArg some (by kernel_rfl))⟩,
  f29 := ⟨Tryz.f178.name, by decide, Tryz.func178.trans (congrArg some (by kernel_rfl))⟩,
  f31 := Tryz.func164.trans (congrArg some (by kernel_rfl)),
  f32 := Tryz.func165.trans (congrArg some (by kernel_rfl)),
  f36 := ⟨Tryz.f187.name, by decide, Tryz.func187.trans (congrArg some (by kernel_rfl))⟩,
  f37 := ⟨Tryz.f188.name, by decide, Tryz.func188.trans (congrArg some (by kernel_rfl))⟩,
  f38 := ⟨Tryz.f189.name, by decide, Tryz.func189.trans (congrArg some (by kernel_rfl))⟩,
  f39 := ⟨Tryz.f190.name, by decide, Tryz.func190.trans (congrArg some (by kernel_rfl))⟩,
  f41 := ⟨Tryz.f197.name, by decide, Tryz.func197.trans (congrArg some (by kernel_rfl))⟩,
  t0 := Tryz.underlying0,
  a0 := Tryz.isAgg0,
  z0 := Tryz.sizeOf0,
  v0 := Tryz.zeroValue0,
  t3 := Tryz.underlying3,
  a3 := Tryz.isAgg3,
  z3 := Tryz.sizeOf3,
  v3 := Tryz.zeroValue3,
  t4 := Tryz.underlying4,
  a4 := Tryz.isAgg4,
  z4 := Tryz.sizeOf4,
  v4 := Tryz.zeroValue4,
  t5 := Tryz.underlying5,
  a5 := Tryz.isAgg5,
  z5 := Tryz.sizeOf5,
  v5 := Tryz.zeroValue5,
  t9 := Tryz.underlying9,
  a9 := Tryz.isAgg9,
  z9 := Tryz.sizeOf9,
  v9 := Tryz.zeroValue9,
  t26 := Tryz.underlying98,
  a26 := Tryz.isAgg98,
  z26 := Tryz.sizeOf98,
  v26 := Tryz.zeroValue98,
  t27 := Tryz.underlying98,
  a27 := Tryz.isAgg98,
  z27 := Tryz.sizeOf98,
  v27 := Tryz.zeroValue98,
  t29 := Tryz.underlying9,
  a29 := Tryz.isAgg9,
  z29 := Tryz.sizeOf9,
  v29 := Tryz.zeroValue9,
  t32 := Tryz.underlying180,
  a32 := Tryz.isAgg180,
  z32 := Tryz.sizeOf180,
  v32 := Tryz.zeroValue180,
  t35 := Tryz.underlying194,
  a35 := Tryz.isAgg194,
  z35 := Tryz.sizeOf194,
  v35 := Tryz.zeroValue194,
  t36 := Tryz.underlying195,
  a36 := Tryz.isAgg195,
  z36 := Tryz.sizeOf195,
  v36 := Tryz.zeroValue195,
  t41 := Tryz.underlying102,
  a41 := Tryz.isAgg102,
  z41 := Tryz.sizeOf102,
  v41 := Tryz.zeroValue102,
  t44 := Tryz.underlying154,
  a44 := Tryz.isAgg154,
  z44 := Tryz.sizeOf154,
  v44 := Tryz.zeroValue154,
  t46 := Tryz.underlying139,
  a46 := Tryz.isAgg139,
  z46 := Tryz.sizeOf139,
  v46 := Tryz.zeroValue139,
  t53 := Tryz.underlying214,
  a53 := Tryz.isAgg214,
  z53 := Tryz.sizeOf214,
  v53 := Tryz.zeroValue214,
  t57 := Tryz.underlying218,
  a57 := Tryz.isAgg218,
  z57 := Tryz.sizeOf218,
  v57 := Tryz.zeroValue218,
  t63 := Tryz.underlying235,
  a63 := Tryz.isAgg235,
  z63 := Tryz.sizeOf235,
  v63 := Tryz.zeroValue235,
  t64 := Tryz.underlying37,
  a64 := Tryz.isAgg37,
  z64 := Tryz.sizeOf37,
  v64 := Tryz.zeroValue37 }
def Tryz.atoiA_ren : Go.Shelf.Ren := ⟨fun | 172 => 120 | 244 => 137 | 245 => 138 | 247 => 157 | 279 => 158 | 280 => 159 | 281 => 160 | 282 => 161 | 287 => 179 | 316 => 180 | 171 => 121 | 205 => 181 | 321 => 191 | 322 => 192 | 243 => 139 | 246 => 162 | 283 => 182 | 284 => 183 | 285 => 184 | 286 => 185 | 129 => 150 | 317 => 193 | 318 => 194 | 319 => 195 | 320 => 196 | 337 => 198 | 338 => 199 | n => n, fun | 9 => 9 | 3 => 3 | 75 => 175 | 76 => 176 | 4 => 4 | 5 => 5 | 167 => 207 | 37 => 183 | 0 => 0 | 85 => 208 | 2 => 2 | 168 => 210 | 53 => 139 | 175 => 226 | 46 => 180 | 210 => 229 | 127 => 240 | 145 => 243 | 143 => 241 | 21 => 21 | 171 => 231 | 173 => 233 | 212 => 245 | 51 => 154 | 20 => 20 | 213 => 246 | 232 => 248 | 233 => 249 | 80 => 250 | n => n, fun | 15 => 0 | 16 => 1 | 17 => 2 | 18 => 3 | 19 => 4 | n => n⟩
theorem Tryz.atoiA : Go.Proofs.LaysC.n172 Tryz.prog Tryz.atoiA_ren := {
  mixed := by kernel_rfl,
  f129 := Tryz.func150.trans (congrArg some (by kernel_rfl)),
  f171 := Tryz.func121.trans (congrArg some (by kernel_rfl)),
  f172 := Tryz.func120.trans (congrArg some (by kernel_rfl)),
  f205 := Tryz.func181.trans (congrArg some (by kernel_rfl)),
  f243 := Tryz.func139.trans (congrArg some (by kernel_rfl)),
  f244 := Tryz.func137.trans (congrArg some (by kernel_rfl)),
  f245 := Tryz.func138.trans (congrArg some (by kernel_rfl)),
  f246 := Tryz.func162.trans (congrArg some (by kernel_rfl)),
  f247 := Tryz.func157.trans (congrArg some (by kernel_rfl)),
  f279 := Tryz.func158.trans (congrArg some (by kernel_rfl)),
  f280 := Tryz.func159.trans (congrArg some (by kernel_rfl)),
  f281 := Tryz.func160.trans (congrArg some (by kernel_rfl)),
  f282 := Tryz.func161.trans (congrArg some (by kernel_rfl)),
  f283 := Tryz.func182.trans (congrArg some (by kernel_rfl)),
  f284 := Tryz.func183.trans (congrArg some (by kernel_rfl)),
  f285 := Tryz.func184.trans (congrArg some (by kernel_rfl)),
  f286 := Tryz.func185.trans (congrArg some (by kernel_rfl)),
  f287 := Tryz.func179.trans (congrArg some (by kernel_rfl)),
  f316 := Tryz.func180.trans (congrArg some (by kernel_rfl)),
  f317 := Tryz.func193.trans (congrArg some (by kernel_rfl)),
  f318 := Tryz.func194.trans (congrArg some (by kernel_rfl)),
  f319 := Tryz.func195.trans (congrArg some (by kernel_rfl)),
  f320 := Tryz.func196.trans (congrArg some (by kernel_rfl)),
  f321 := Tryz.func191.trans (congrArg some (by kernel_rfl)),
  f322 := Tryz.func192.trans (congrArg some (by kernel_rfl)),
  f337 := Tryz.func198.trans (congrArg some (by kernel_rfl)),
  f338 := Tryz.func199.trans (congrArg some (by kernel_rfl)),
  t0 := Tryz.underlying0,
  a0 := Tryz.isAgg0,
  z0 := Tryz.sizeOf0,
  v0 := Tryz.zeroValue0,
  t2 := Tryz.underlying2,
  a2 := Tryz.isAgg2,
  z2 := Tryz.sizeOf2,
  v2 := Tryz.zeroValue2,
  t3 := Tryz.underlying3,
  a3 := Tryz.isAgg3,
  z3 := Tryz.sizeOf3,
  v3 := Tryz.zeroValue3,
  t4 := Tryz.underlying4,
  a4 := Tryz.isAgg4,
  z4 := Tryz.sizeOf4,
  v4 := Tryz.zeroValue4,
  t5 := Tryz.underlying5,
  a5 := Tryz.isAgg5,
  z5 := Tryz.sizeOf5,
  v5 := Tryz.zeroValue5,
  t9 := Tryz.underlying9,
  a9 := Tryz.isAgg9,
  z9 := Tryz.sizeOf9,
  v9 := Tryz.zeroValue9,
  t20 := Tryz.underlying20,
  a20 := Tryz.isAgg20,
  z20 := Tryz.sizeOf20,
  v20 := Tryz.zeroValue20,
  t21 := Tryz.underlying21,
  a21 := Tryz.isAgg21,
  z21 := Tryz.sizeOf21,
  v21 := Tryz.zeroValue21,
  t37 := Tryz.underlying183,
  a37 := Tryz.isAgg183,
  z37 := Tryz.sizeOf183,
  v37 := Tryz.zeroValue183,
  t46 := Tryz.underlying180,
  a46 := Tryz.isAgg180,
  z46 := Tryz.sizeOf180,
  v46 := Tryz.zeroValue180,
  t51 := Tryz.underlying154,
  a51 := Tryz.isAgg154,
  z51 := Tryz.sizeOf154,
  v51 := Tryz.zeroValue154,
  t53 := Tryz.underlying139,
  a53 := Tryz.isAgg139,
  z53 := Tryz.sizeOf139,
  v53 := Tryz.zeroValue139,
  t75 := Tryz.underlying175,
  a75 := Tryz.isAgg175,
  z75 := Tryz.sizeOf175,
  v75 := Tryz.zeroValue175,
  t76 := Tryz.underlying176,
  a76 := Tryz.isAgg176,
  z76 := Tryz.sizeOf176,
  v76 := Tryz.zeroValue176,
  t85 := Tryz.underlying208,
  a85 := Tryz.isAgg208,
  z85 := Tryz.sizeOf208,
  v85 := Tryz.zeroValue208,
  t127 := Tryz.underlying240,
  a127 := Tryz.isAgg240,
  z127 := Tryz.sizeOf240,
  v127 := Tryz.zeroValue240,
  t143 := Tryz.underlying241,
  a143 := Tryz.isAgg241,
  z143 := Tryz.sizeOf241,
  v143 := Tryz.zeroValue241,
  t145 := Tryz.underlying243,
  a145 := Tryz.isAgg243,
  z145 := Tryz.sizeOf243,
  v145 := Tryz.zeroValue243,
  t167 := Tryz.underlying207,
  a167 := Tryz.isAgg207,
  z167 := Tryz.sizeOf207,
  v167 := Tryz.zeroValue207,
  t168 := Tryz.underlying210,
  a168 := Tryz.isAgg210,
  z168 := Tryz.sizeOf210,
  v168 := Tryz.zeroValue210,
  t171 := Tryz.underlying231,
  a171 := Tryz.isAgg231,
  z171 := Tryz.sizeOf231,
  v171 := Tryz.zeroValue231,
  t173 := Tryz.underlying233,
  a173 := Tryz.isAgg233,
  z173 := Tryz.sizeOf233,
  v173 := Tryz.zeroValue233,
  t175 := Tryz.underlying226,
  a175 := Tryz.isAgg226,
  z175 := Tryz.sizeOf226,
  v175 := Tryz.zeroValue226,
  t210 := Tryz.underlying229,
  a210 := Tryz.isAgg229,
  z210 := Tryz.sizeOf229,
  v210 := Tryz.zeroValue229,
  t212 := Tryz.underlying245,
  a212 := Tryz.isAgg245,
  z212 := Tryz.sizeOf245,
  v212 := Tryz.zeroValue245,
  t213 := Tryz.underlying246,
  a213 := Tryz.isAgg246,
  z213 := Tryz.sizeOf246,
  t232 := Tryz.underlying248,
  a232 := Tryz.isAgg248,
  z232 := Tryz.sizeOf248,
  v232 := Tryz.zeroValue248,
  t233 := Tryz.underlying249,
  a233 := Tryz.isAgg249,
  z233 := Tryz.sizeOf249,
  v233 := Tryz.zeroValue249,
  g15 := by kernel_rfl,
  g16 := by kernel_rfl,
  g17 := by kernel_rfl,
  g18 := by kernel_rfl,
  g19 := by kernel_rfl,
  t80 := Tryz.underlying250,
  a80 := Tryz.isAgg250,
  z80 := Tryz.sizeOf250,
  v80 := Tryz.zeroValue250,
  i0 := by kernel_rfl,
  i2 := by kernel_rfl,
  i3 := by kernel_rfl,
  i4 := by kernel_rfl,
  i5 := by kernel_rfl,
  i9 := by kernel_rfl,
  i20 := by kernel_rfl,
  i21 := by kernel_rfl,
  i37 := by kernel_rfl,
  i46 := by kernel_rfl,
  i51 := by kernel_rfl,
  i53 := by kernel_rfl,
  i75 := by kernel_rfl,
  i76 := by kernel_rfl,
  i80 := by kernel_rfl,
  i85 := by kernel_rfl,
  i127 := by kernel_rfl,
  i143 := by kernel_rfl,
  i145 := by kernel_rfl,
  i167 := by kernel_rfl,
  i168 := by kernel_rfl,
  i171 := by kernel_rfl,
  i173 := by kernel_rfl,
  i175 := by kernel_rfl,
  i210 := by kernel_rfl,
  i212 := by kernel_rfl,
  i232 := by kernel_rfl,
  i233 := by kernel_rfl,
  m15 := by kernel_rfl,
  m16 := by kernel_rfl,
  m17 := by kernel_rfl,
  m18 := by kernel_rfl,
  m19 := by kernel_rfl,
  c0 := by kernel_rfl,
  c2 := by kernel_rfl,
  c3 := by kernel_rfl,
  c4 := by kernel_rfl,
  c5 := by kernel_rfl,
  c9 := by kernel_rfl,
  c20 := by kernel_rfl,
  c21 := by kernel_rfl,
  c37 := by kernel_rfl,
  c46 := by kernel_rfl,
  c51 := by kernel_rfl,
  c53 := by kernel_rfl,
  c75 := by kernel_rfl,
  c76 := by kernel_rfl,
  c80 := by kernel_rfl,
  c85 := by kernel_rfl,
  c127 := by kernel_rfl,
  c143 := by kernel_rfl,
  c145 := by kernel_rfl,
  c167 := by kernel_rfl,
  c168 := by kernel_rfl,
  c171 := by kernel_rfl,
  c173 := by kernel_rfl,
  c175 := by kernel_rfl,
  c210 := by kernel_rfl,
  c212 := by kernel_rfl,
  c213 := by kernel_rfl,
  c232 := by kernel_rfl,
  c233 := by kernel_rfl }
def Tryz.itoaA_ren : Go.Shelf.Ren := ⟨fun | 171 => 121 | 243 => 139 | 246 => 162 | 283 => 182 | 284 => 183 | 285 => 184 | 286 => 185 | 129 => 150 | 317 => 193 | 318 => 194 | 319 => 195 | 320 => 196 | 337 => 198 | 338 => 199 | n => n, fun | 3 => 3 | 9 => 9 | 2 => 2 | 4 => 4 | 171 => 231 | 0 => 0 | 53 => 139 | 37 => 183 | 5 => 5 | 173 => 233 | 212 => 245 | 51 => 154 | 20 => 20 | 213 => 246 | 46 => 180 | 232 => 248 | 233 => 249 | n => n, fun | 17 => 2 | 18 => 3 | 19 => 4 | n => n⟩
theorem Tryz.itoaA : Go.Proofs.LaysM.n171 Tryz.prog Tryz.itoaA_ren := {
  mixed := by kernel_rfl,
  f129 := Tryz.func150.trans (congrArg some (by kernel_rfl)),
  f171 := Tryz.func121.trans (congrArg some (by kernel_rfl)),
  f243 := Tryz.func139.trans (congrArg some (by kernel_rfl)),
  f246 := Tryz.func162.trans (congrArg some (by kernel_rfl)),
  f283 := Tryz.func182.trans (congrArg some (by kernel_rfl)),
  f284 := Tryz.func183.trans (congrArg some (by kernel_rfl)),
  f285 := Tryz.func184.trans (congrArg some (by kernel_rfl)),
  f286 := Tryz.func185.trans (congrArg some (by kernel_rfl)),
  f317 := Tryz.func193.trans (congrArg some (by kernel_rfl)),
  f318 := Tryz.func194.trans (congrArg some (by kernel_rfl)),
  f319 := Tryz.func195.trans (congrArg some (by kernel_rfl)),
  f320 := Tryz.func196.trans (congrArg some (by kernel_rfl)),
  f337 := Tryz.func198.trans (congrArg some (by kernel_rfl)),
  f338 := Tryz.func199.trans (congrArg some (by kernel_rfl)),
  t0 := Tryz.underlying0,
  a0 := Tryz.isAgg0,
  z0 := Tryz.sizeOf0,
  v0 := Tryz.zeroValue0,
  t2 := Tryz.underlying2,
  a2 := Tryz.isAgg2,
  z2 := Tryz.sizeOf2,
  v2 := Tryz.zeroValue2,
  t3 := Tryz.underlying3,
  a3 := Tryz.isAgg3,
  z3 := Tryz.sizeOf3,
  v3 := Tryz.zeroValue3,
  t4 := Tryz.underlying4,
  a4 := Tryz.isAgg4,
  z4 := Tryz.sizeOf4,
  v4 := Tryz.zeroValue4,
  t5 := Tryz.underlying5,
  a5 := Tryz.isAgg5,
  z5 := Tryz.sizeOf5,
  v5 := Tryz.zeroValue5,
  t9 := Tryz.underlying9,
  a9 := Tryz.isAgg9,
  z9 := Tryz.sizeOf9,
  v9 := Tryz.zeroValue9,
  t20 := Tryz.underlying20,
  a20 := Tryz.isAgg20,
  z20 := Tryz.sizeOf20,
  v20 := Tryz.zeroValue20,
  t37 := Tryz.underlying183,
  a37 := Tryz.isAgg183,
  z37 := Tryz.sizeOf183,
  v37 := Tryz.zeroValue183,
  t46 := Tryz.underlying180,
  a46 := Tryz.isAgg180,
  z46 := Tryz.sizeOf180,
  v46 := Tryz.zeroValue180,
  t51 := Tryz.underlying154,
  a51 := Tryz.isAgg154,
  z51 := Tryz.sizeOf154,
  v51 := Tryz.zeroValue154,
  t53 := Tryz.underlying139,
  a53 := Tryz.isAgg139,
  z53 := Tryz.sizeOf139,
  v53 := Tryz.zeroValue139,
  t171 := Tryz.underlying231,
  a171 := Tryz.isAgg231,
  z171 := Tryz.sizeOf231,
  v171 := Tryz.zeroValue231,
  t173 := Tryz.underlying233,
  a173 := Tryz.isAgg233,
  z173 := Tryz.sizeOf233,
  v173 := Tryz.zeroValue233,
  t212 := Tryz.underlying245,
  a212 := Tryz.isAgg245,
  z212 := Tryz.sizeOf245,
  v212 := Tryz.zeroValue245,
  t213 := Tryz.underlying246,
  a213 := Tryz.isAgg246,
  z213 := Tryz.sizeOf246,
  t232 := Tryz.underlying248,
  a232 := Tryz.isAgg248,
  z232 := Tryz.sizeOf248,
  v232 := Tryz.zeroValue248,
  t233 := Tryz.underlying249,
  a233 := Tryz.isAgg249,
  z233 := Tryz.sizeOf249,
  v233 := Tryz.zeroValue249,
  g17 := by kernel_rfl,
  g18 := by kernel_rfl,
  g19 := by kernel_rfl,
  i0 := by kernel_rfl,
  i2 := by kernel_rfl,
  i3 := by kernel_rfl,
  i4 := by kernel_rfl,
  i5 := by kernel_rfl,
  i9 := by kernel_rfl,
  i20 := by kernel_rfl,
  i37 := by kernel_rfl,
  i46 := by kernel_rfl,
  i51 := by kernel_rfl,
  i53 := by kernel_rfl,
  i171 := by kernel_rfl,
  i173 := by kernel_rfl,
  i212 := by kernel_rfl,
  i232 := by kernel_rfl,
  i233 := by kernel_rfl,
  m17 := by kernel_rfl,
  m18 := by kernel_rfl,
  m19 := by kernel_rfl }

end Go.Proofs.YthnhbejjikgifaaGreatDoor

/-
  WAL: functions of Go's library, by the kit's contracts, as shapes take them.
-/
namespace Go.Proofs.YthnhbejjikgifaaGreatDoor.TV
open Go Go.RowKit Go.Shelf Go.Maps Go.Sort Go.Proofs Go.WideShapes Go.WideElems Go.WideMaps
set_option linter.unusedVariables false
set_option linter.unusedSimpArgs false
set_option maxRecDepth 100000

/-- Texts, rising. -/
def insT (x : List UInt8) : List (List UInt8) → List (List UInt8)
  | [] => [x]
  | y :: l => if x ≤ y then x :: y :: l else y :: insT x l
def sortT : List (List UInt8) → List (List UInt8)
  | [] => []
  | x :: l => insT x (sortT l)
/-- A map's keys, all of them texts. -/
def keysT : List (TV × TV × Nat) → Option (List (List UInt8))
  | [] => some []
  | (.str k, _) :: es => match keysT es with
    | some l => some (k :: l)
    | none => none
  | _ => none
def clonedT : List TV → St → Option (TV × St)
  | [.map (some o)], s => match s.objs.get o with
    | some (.map es c) => some (.map (some s.n), mkObj s (.map es c))
    | _ => none
  | _, _ => none
def sortedT : List TV → St → Option (TV × St)
  | [.fn (.func f) [] [.ptr o 0]], s => if f = 131 then (match s.objs.get o with
      | some (.cells [.map (some m)] t) => if t = 67 then (match s.objs.get m with
        | some (.map es c) => if es.length ≤ 1000 then (match keysT es with
          | some l => if (es.all fun e => decide (e.2.2 < c)) && decide (es.map fun e => e.2.2).Nodup && decide l.Nodup && (l.all fun k => decide (k.length ≤ 1000)) then some (.slice l.isEmpty ((sortT l).map TV.str) .unk, s) else none
          | none => none) else none
        | _ => none) else none
      | _ => none) else none
  | _, _ => none
theorem cloned_ok {args : List TV} {s s' : St} {v : TV} (h : clonedT args s = some (v, s')) : Sim Tryz.prog 47 args s v s' := by
  unfold clonedT at h
  split at h
  · rename_i o
    split at h
    · rename_i es c ho
      cases h
      refine ⟨⟨_, _, Tryz.func47, rfl⟩, fun g w rargs hR hA => ?_⟩
      cases hA with
      | cons rv _ _ _ r rs =>
        cases rs
        cases r with
        | map _ b e =>
          obtain ⟨ob, h1, h2⟩ := hR.obj o b e
          rw [ho] at h1
          cases h1
          obtain ⟨rs, h3, h4⟩ := h2
          have hc := AnyW.maps_Clone Tryz.cloneA b rs c w h3
          refine Calls.mono hc fun e' w' ⟨he, hw⟩ => ?_
          subst hw
          obtain ⟨k1, k2, k3⟩ := hR.newObj ((Below.refl _ w).alloc (Nat.le_refl _) (.map rs c)) (Nat.le_refl _) (ob := .map es c) ⟨rs, heap_alloc_new w _, h4⟩
          exact ⟨_, _, he, k1, k2, .map _ _ k3⟩
    · cases h
  · cases h
/-! ### Keys, rising -/
theorem insT_perm (x : List UInt8) : ∀ l, (insT x l).Perm (x :: l)
  | [] => .refl _
  | y :: l => by
    unfold insT
    split
    · exact .refl _
    · exact ((insT_perm x l).cons y).trans (.swap x y l)
theorem sortT_perm : ∀ l, (sortT l).Perm l
  | [] => .refl _
  | x :: l => (insT_perm x _).trans ((sortT_perm l).cons x)
theorem insT_sorted {x : List UInt8} : ∀ {l : List (List UInt8)}, l.Pairwise (fun a b => leB a b = true) → (insT x l).Pairwise (fun a b => leB a b = true)
  | [], _ => by simp [insT]
  | y :: l, h => by
    unfold insT
    rw [List.pairwise_cons] at h
    split
    · rename_i hxy
      refine List.pairwise_cons.2 ⟨fun z hz => ?_, List.pairwise_cons.2 h⟩
      rcases List.mem_cons.1 hz with rfl | hz
      · simpa [leB] using hxy
      · have := h.1 z hz
        simp only [leB, decide_eq_true_eq] at this ⊢
        exact List.le_trans hxy this
    · rename_i hxy
      refine List.pairwise_cons.2 ⟨fun z hz => ?_, insT_sorted h.2⟩
      rcases List.mem_cons.1 ((insT_perm x l).mem_iff.1 hz) with rfl | hz
      · have := List.le_total z y
        simp only [leB, decide_eq_true_eq]
        rcases this with k | k
        · exact absurd k hxy
        · exact k
      · exact h.1 z hz
theorem sortT_sorted : ∀ l : List (List UInt8), (sortT l).Pairwise (fun a b => leB a b = true)
  | [] => .nil
  | x :: l => insT_sorted (sortT_sorted l)
theorem sortT_eq {l l' : List (List UInt8)} (h : l'.Perm l) : l'.mergeSort leB = sortT l := by
  have tr : ∀ a b c : List UInt8, leB a b = true → leB b c = true → leB a c = true := fun a b c h1 h2 => by simp only [leB, decide_eq_true_eq] at *; exact List.le_trans h1 h2
  have to : ∀ a b : List UInt8, (leB a b || leB b a) = true := fun a b => by simp only [leB, Bool.or_eq_true, decide_eq_true_eq]; exact List.le_total a b
  refine List.Perm.eq_of_pairwise (le := fun a b => leB a b = true) (fun a b _ _ h1 h2 => ?_) (List.pairwise_mergeSort tr to l') (sortT_sorted l) (((List.mergeSort_perm l' leB).trans h).trans (sortT_perm l).symm)
  simp only [leB, decide_eq_true_eq] at h1 h2
  exact List.le_antisymm h1 h2
/-- What each value reads as does not matter. -/
def anyR : Value → Option (DataW Unit × List MemPlace) := fun _ => some (.nil, [])
theorem keys_rel {g : G} : ∀ {rs : List MapEntry} {es : List (TV × TV × Nat)} {l : List (List UInt8)}, EntRel g rs es → keysT es = some l → rs.map (·.key) = l.map Go.Proofs.encStr ∧ rs.map (·.born) = es.map (fun e => e.2.2) ∧ rs.length = es.length
  | [], [], l, h, hk => by
    cases hk
    exact ⟨rfl, rfl, rfl⟩
  | e :: rs, (k, v, n) :: es, l, h, hk => by
    cases h with
    | cons _ _ _ _ _ _ h1 h2 h3 h4 =>
      cases k with
      | str x =>
        simp only [keysT] at hk
        split at hk
        · rename_i l' hl
          cases hk
          obtain ⟨i1, i2, i3⟩ := keys_rel h4 hl
          cases hkv : e.key <;> rw [hkv] at h1 <;> cases h1
          rename_i sb hsb
          refine ⟨?_, ?_, ?_⟩
          · simp only [List.map_cons, i1, hkv, ← hsb]
          · simp only [List.map_cons, i2, h3]
          · simp only [List.length_cons, i3]
        · cases hk
      | _ => cases hk
  | [], _ :: _, _, h, _ => by cases h
  | _ :: _, [], _, h, _ => by cases h
theorem sorts (m : Nat) : AnyZ.SortsIn Tryz.prog Tryz.sortedA_ren Fence.wide m :=
  ⟨fun blk off cap ss W hH hblk hsz => callsIn_wide.2 (AnyM.slices_Sort_string Tryz.sortA blk off cap ss W hH hblk hsz),
   fun p cap W => callsIn_wide.2 (AnyM.slices_Sort_string_none Tryz.sortA p cap W)⟩
theorem len_of_keys : ∀ {es : List (TV × TV × Nat)} {l : List (List UInt8)}, keysT es = some l → l.length = es.length
  | [], l, h => by cases h; rfl
  | (k, v) :: es, l, h => by
    cases k with
    | str x =>
      simp only [keysT] at h
      split at h
      · rename_i l' hl
        cases h
        simp [len_of_keys hl]
      · cases h
    | _ => cases h
set_option maxHeartbeats 1000000 in
theorem sorted_ok {args : List TV} {s s' : St} {v : TV} (h : sortedT args s = some (v, s')) : Sim Tryz.prog 100 args s v s' := by
  unfold sortedT at h
  split at h
  · rename_i f o
    split at h
    · rename_i hf
      subst hf
      split at h
      · rename_i m t ho
        split at h
        · rename_i ht
          subst ht
          split at h
          · rename_i es c hm
            split at h
            · rename_i hlen
              split at h
              · rename_i l hk
                split at h
                · rename_i hst
                  cases h
                  simp only [Bool.and_eq_true, List.all_eq_true, decide_eq_true_eq] at hst
                  obtain ⟨⟨⟨hs1, hs2⟩, hs3⟩, hs4⟩ := hst
                  refine ⟨⟨_, _, Tryz.func100, rfl⟩, fun g w rargs hR hA => ?_⟩
                  cases hA with
                  | cons rv _ _ _ r rs =>
                    cases rs
                    cases r with
                    | fn _ a' c' _ _ ra rc =>
                      obtain ⟨a'⟩ := a'
                      obtain ⟨c'⟩ := c'
                      cases ra
                      cases rc with
                      | cons pv _ _ _ rp rps =>
                        cases rps
                        cases rp with
                        | ptr _ b _ e =>
                          obtain ⟨ob, h1, h2⟩ := hR.obj o b e
                          rw [ho] at h1
                          cases h1
                          obtain ⟨vs, h3, h4⟩ := h2
                          obtain ⟨mv, hmv, rm⟩ := h4.get (i := 0) rfl
                          cases hmx : mv <;> rw [hmx] at rm <;> cases rm
                          rename_i mb hmb
                          subst hmx
                          have hcell : w.cell? ⟨b, 0, none⟩ = some (.map (some mb)) := by
                            rw [List.getElem?_take] at hmv
                            simp only [List.length_cons, List.length_nil, Nat.zero_add, Nat.lt_succ_self, if_true] at hmv
                            simp [World.cell?, h3]
                            simpa using hmv
                          obtain ⟨ob2, h5, h6⟩ := hR.obj m mb hmb
                          rw [hm] at h5
                          cases h5
                          obtain ⟨rs, h7, h8⟩ := h6
                          obtain ⟨q1, q2, q3⟩ := keys_rel h8 hk
                          have hll := len_of_keys hk
                          have hrs : rs.size = es.length := by simpa using q3
                          have hread : ∀ x ∈ rs.toList, ∃ k, x.key = Go.Proofs.encStr k ∧ k.length ≤ 1000 := by
                            intro x hx
                            have hm : x.key ∈ rs.toList.map (·.key) := List.mem_map.2 ⟨x, hx, rfl⟩
                            rw [q1] at hm
                            obtain ⟨k, hk1, hk2⟩ := List.mem_map.1 hm
                            exact ⟨k, hk2.symm, by simpa using hs4 k hk1⟩
                          have hmax : (1000 : Nat) ≤ maxLen := by decide
                          have hrd : ∀ x ∈ rs.toList, ∀ k, x.key = Go.Proofs.encStr k → k.length ≤ 1000 → rd Tryz.prog 9 anyR x = some (.string k, .nil) := by
                            intro x hx k hxk hkl
                            obtain ⟨key, val, born⟩ := x
                            simp only at hxk
                            subst hxk
                            have hkey : keyOf Tryz.prog 9 (Go.Proofs.encStr k) = some (.string k) := by
                              have := keyOf_string_mk (s := ⟨k.toArray⟩) Tryz.underlying9 (by
                                show k.toArray.size ≤ maxLen
                                rw [List.size_toArray]
                                omega)
                              simpa using this
                            exact rd_mk (R := anyR) (yv := (.nil, [])) (val := val) (born := born) hkey rfl
                          have hown : w.ownsMap Tryz.prog 9 anyR mb es.length (.map ((rs.toList.map (rg Tryz.prog 9 anyR)).foldr DataW.insert [])) := by
                            refine ⟨rs, c, h7, ⟨by omega, ⟨fun x hx => ?_, ?_, ?_⟩, fun x hx => ?_⟩, by omega, rfl⟩
                            · have hm : x.born ∈ rs.toList.map (·.born) := List.mem_map.2 ⟨x, hx, rfl⟩
                              rw [q2] at hm
                              obtain ⟨y, hy1, hy2⟩ := List.mem_map.1 hm
                              rw [← hy2]
                              exact hs1 y hy1
                            · rw [q2]; exact hs2
                            · rw [q1]
                              exact List.pairwise_map.2 (hs3.imp fun hne he => hne (encStr_inj he))
                            · obtain ⟨k, hk1, hk2⟩ := hread x hx
                              exact ⟨_, hrd x hx k hk1 hk2⟩
                          have hsize : ((rs.toList.map (rg Tryz.prog 9 anyR)).foldr DataW.insert []).length = es.length := by
                            rw [(sorted_perm _).length_eq, List.length_map]
                            exact q3
                          have hperm : (strKeys (.map ((rs.toList.map (rg Tryz.prog 9 anyR)).foldr DataW.insert []))).Perm l := by
                            have e1 : (rs.toList.map (rg Tryz.prog 9 anyR)).map (fun p => strOf p.1) = l := by
                              have e2 : (rs.toList.map (rg Tryz.prog 9 anyR)).map (fun p => strOf p.1) = (rs.toList.map (·.key)).map (fun v => match v with
                                  | .string s => s.data.toList
                                  | _ => []) := by
                                rw [List.map_map, List.map_map]
                                refine List.map_congr_left fun x hx => ?_
                                obtain ⟨k, hk1, hk2⟩ := hread x hx
                                simp only [Function.comp, rg_of (hrd x hx k hk1 hk2), hk1, strOf]
                              rw [e2, q1, List.map_map]
                              simp only [Function.comp_def]
                              exact List.map_id' l
                            have := (sorted_perm (rs.toList.map (rg Tryz.prog 9 anyR))).map (fun p => strOf p.1)
                            rw [e1] at this
                            exact this
                          have hb : b < w.heap.size := hR.obj_lt e
                          have hseq := AnyZ.keys_gives (ρ := Tryz.keysA_ren) { Tryz.keysA with } Fence.wide 2 trivial rfl (by omega) b mb es.length _ w hb hcell hown
                          have cS := AnyZ.sorted_in Tryz.sortedA Fence.wide 5 trivial trivial trivial trivial rfl (by omega) (sorts _) (enters_of Tryz.func130 (by kernel_rfl) rfl) 131 #[.pointer (some ⟨b, 0, none⟩)] trivial (enters_of Tryz.func131 (by kernel_rfl) rfl) _ _ (by
                              show ((rs.toList.map (rg Tryz.prog 9 anyR)).foldr DataW.insert []).length ≤ maxLen
                              omega) (by
                              show ((rs.toList.map (rg Tryz.prog 9 anyR)).foldr DataW.insert []).length * 16 ≤ _
                              omega) w hseq
                          have cS' : Calls Tryz.prog 100 _ w _ := (callsIn_wide (n := 5)).1 cS
                          refine Calls.mono cS' fun e' w' ⟨v, ss, he, hS, hrow, hnil, hB⟩ => ?_
                          have hss : ss.mergeSort (fun x y => decide (x ≤ y)) = sortT l := sortT_eq (hS.trans hperm)
                          rw [hss] at hrow
                          rcases hrow.2 with ⟨hv, hz⟩ | ⟨gb, cap, cur, hv, hbase, hgb, r1, r2, r3, r4⟩
                          · have hss0 : ss = [] := List.eq_nil_of_length_eq_zero hz
                            have hl0 : l = [] := by
                              have := (hS.trans hperm)
                              rw [hss0] at this
                              exact this.symm.eq_nil
                            subst hl0
                            refine ⟨v, g, he, .refl g, hR.keep hB, ?_⟩
                            rw [hv]
                            exact .nils _ (fun i e => by cases e)
                          · have hne : l ≠ [] := by
                              intro hl0
                              have : ss = [] := by
                                have h9 := hS.trans hperm
                                rw [hl0] at h9
                                exact h9.eq_nil
                              have h10 := hnil.2 this
                              rw [hv] at h10
                              cases h10
                            have hlen2 : ss.length = (sortT l).length := by rw [← hss, List.length_mergeSort]
                            obtain ⟨k1, k2, k3⟩ := hR.newData hB hbase (vs := (sortT l).map Go.Proofs.encStr) (fun i v hi => by
                              rw [← r4, Nat.mul_one] at hi
                              rw [List.getElem?_take] at hi
                              split at hi
                              · simp [World.cell?, hgb]
                                simpa using hi
                              · cases hi)
                            refine ⟨v, _, he, k1, k2, ?_⟩
                            rw [hv]
                            have hemp : l.isEmpty = false := by
                              cases l with
                              | nil => exact absurd rfl hne
                              | cons _ _ => rfl
                            rw [hemp]
                            have hsne : sortT l ≠ [] := by
                              intro h0
                              have := (sortT_perm l).symm
                              rw [h0] at this
                              exact hne this.eq_nil
                            refine .slice gb 0 ss.length cap 1 _ _ _ (by simpa using hsne) (by simp [hlen2]) r1 (by omega) (fun x hx => ?_) k3 ?_ trivial
                            · obtain ⟨k, _, rfl⟩ := List.mem_map.1 hx
                              rfl
                            · have this : ∀ (g : G) (L : List (List UInt8)), VRels g (L.map Go.Proofs.encStr) ((L.map TV.str).flatMap TV.cells) := by
                                intro g L
                                induction L with
                                | nil => exact .nil
                                | cons k L ih => exact .cons _ _ _ _ (.str _ _ (by simp)) ih
                              exact this _ _
                · cases h
              · cases h
            · cases h
          · cases h
        · cases h
      · cases h
    · cases h
  · cases h

/-! ### As shapes take them -/
def mapCloneU : Spec := fun args h => match args with
  | [.oref j] => (match readOf h.tips j with
    | some (.map v l) => .leaf (.oref h.tips.length, { h with tips := h.tips ++ [some (.own (.map v l))] }, [])
    | _ => .fail)
  | _ => .fail
noncomputable def mapClone_s : FuncId × Spec := (47, mapCloneU)
theorem mapClone_o0 : SpecOk0 Tryz.prog mapClone_s.1 mapClone_s.2 := by
  intro args h r hr s V targs hR hv
  simp only [mapClone_s, mapCloneU] at hr
  split at hr
  · rename_i j
    split at hr
    · rename_i v l hc
      simp only [Tree.Has] at hr
      subst hr
      cases hv with
      | cons _ x _ _ rx rs =>
        cases rs
        rcases oref_cases rx with ⟨o, rfl, hj⟩ | ⟨o, n, rfl, hj⟩ | ⟨rfl, hj⟩
        · obtain ⟨_, es, c, h1, h2⟩ := own_map hR hc hj
          obtain ⟨k1, k2⟩ := newMap_eff hR v h2 []
          exact ⟨_, _, .map (some s.n), cloned_ok (by simp only [clonedT, h1]), .oref _ _ k2, k1⟩
        · exact (own_get hR hc hj).elim
        · exact (own_get hR hc hj).elim
    · exact hr.elim
  · exact hr.elim
theorem keysT_of {v : Ty} : ∀ {l : List (List UInt8 × v.den)} {es : List (TV × TV × Nat)}, All2 (EntR v) l es → keysT es = some (l.map (·.1))
  | [], [], _ => rfl
  | x :: l, (a, b, c) :: es, h => by
    obtain ⟨⟨h1, _⟩, h2⟩ := h
    simp only at h1
    subst h1
    simp only [keysT, keysT_of h2, List.map_cons]
  | [], _ :: _, h => h.elim
  | _ :: _, [], h => h.elim
def sortedU : Spec := fun args h => match args with
  | [.fn (.func f) [] [.ptr k 0]] => if f = 131 then (match h.objs[k]? with
    | some ⟨[.oref j], ty, _⟩ => if ty = 67 then (match readOf h.tips j with
      | some (.map v l) => .ite (decide (l.length ≤ 1000)) (.ite (l.all fun e => decide (e.1.length ≤ 1000)) (.leaf (.slice .str none (sortT (l.map (·.1))) .no, h, [])) .fail) .fail
      | _ => .fail) else .fail
    | _ => .fail) else .fail
  | _ => .fail
noncomputable def sorted_s : FuncId × Spec := (100, sortedU)
theorem strs_rel : ∀ l : List (List UInt8), All2 (ElR .str) l (l.map TV.str)
  | [] => trivial
  | x :: l => ⟨⟨rfl, rfl⟩, strs_rel l⟩
theorem sorted_o0 : SpecOk0 Tryz.prog sorted_s.1 sorted_s.2 := by
  intro args h r hr s V targs hR hv
  simp only [sorted_s, sortedU] at hr
  split at hr
  · rename_i f k
    split at hr
    · rename_i hf
      subst hf
      split at hr
      · rename_i j ty fz hk
        split at hr
        · rename_i hty
          subst hty
          split at hr
          · rename_i v l hc
            simp only [Tree.Has] at hr
            rcases hr with ⟨h1, ⟨h2, rfl⟩ | ⟨_, hr⟩⟩ | ⟨_, hr⟩
            · cases hv with
              | cons _ x _ _ rx rs =>
                cases rs
                cases rx with
                | fn _ _ _ a' c' ra rc =>
                  cases ra
                  cases rc with
                  | cons _ p _ _ rp rps =>
                    cases rps
                    cases rp with
                    | ptr _ _ o ho =>
                      obtain ⟨ts, h3, h4⟩ := hR.obj k o _ ho hk
                      cases h4 with
                      | cons _ y _ _ ry rys =>
                        cases rys
                        rcases oref_cases ry with ⟨m, rfl, hj⟩ | ⟨m, n, rfl, hj⟩ | ⟨rfl, hj⟩
                        · obtain ⟨_, es, c, h5, h6⟩ := own_map hR hc hj
                          simp only [decide_eq_true_eq, List.all_eq_true] at h1 h2
                          have hl := h6.rel.length
                          have hs : sortedT [.fn (.func 131) [] [.ptr o 0]] s = some (.slice (l.map (·.1)).isEmpty ((sortT (l.map (·.1))).map TV.str) .unk, s) := by
                            simp only [sortedT, h3, h5, if_true, keysT_of h6.rel]
                            rw [if_pos (by omega), if_pos]
                            simp only [Bool.and_eq_true, List.all_eq_true, decide_eq_true_eq]
                            exact ⟨⟨⟨h6.lt, h6.stamps⟩, h6.keys⟩, fun k hk => by
                              obtain ⟨e, he, rfl⟩ := List.mem_map.1 hk
                              exact h2 e he⟩
                          exact ⟨s, V, _, sorted_ok hs, .slice _ _ _ _ _ _ _ (fun x hx => by cases hx) (strs_rel _) trivial, Eff.refl hR []⟩
                        · exact (own_get hR hc hj).elim
                        · exact (own_get hR hc hj).elim
            · exact hr.elim
            · exact hr.elim
          · exact hr.elim
        · exact hr.elim
      · exact hr.elim
    · exact hr.elim
  · exact hr.elim
theorem mapClone_o : SpecOk Tryz.prog mapClone_s.1 mapClone_s.2 := mapClone_o0.up
theorem sorted_o : SpecOk Tryz.prog sorted_s.1 sorted_s.2 := sorted_o0.up
end Go.Proofs.YthnhbejjikgifaaGreatDoor.TV

/-
  WAL: numbers and their decimal texts, by the kit's contracts, as shapes take them.
-/
namespace Go.Proofs.YthnhbejjikgifaaGreatDoor.TV
open Go Go.RowKit Go.Shelf Go.Proofs Go.Sort
set_option linter.unusedVariables false
set_option linter.unusedSimpArgs false
set_option maxRecDepth 100000

theorem pow10_eq : Lib.pow10Tab = pow10 := by decide
theorem gPow : Tryz.prog.globalNamed "internal/strconv.uint64pow10" = some 2 := by kernel_rfl
theorem itoa_sim (n : Int) (h0 : -9223372036854775808 ≤ n) (h1 : n ≤ 9223372036854775807) (s : St) : Sim Tryz.prog 121 [.int .i64 n] s (.str (Lib.itoa n)) s := by
  refine ⟨⟨_, _, Tryz.func121, rfl⟩, fun g w rargs hR hA => ?_⟩
  cases hA with
  | cons rv _ _ _ r rs =>
    cases rs
    cases r with
    | int _ _ =>
      obtain ⟨hb, _, _, t, fz, hz⟩ := g.hV
      have htab : Lib.TabIs Tryz.prog w "internal/strconv.uint64pow10" .u64 Lib.pow10Tab := by
        unfold Lib.TabIs World.var?
        rw [gPow, pow10_eq]
        simp only [Option.bind_some]
        rw [hR.below.block 2 hb, hz]
      have hc := Any.strconv_Itoa Tryz.itoaA n h0 h1 w htab
      refine Calls.mono hc fun e' w' ⟨he, k, os, hw⟩ => ?_
      have hB : Below w.heap.size w w' := by
        subst hw
        exact ⟨rfl, rfl, rfl, by simp [grow, World.drewN], fun i hi => by simp [grow, World.drewN, Array.getElem?_append_left hi]⟩
      exact ⟨_, g, he, .refl g, hR.keep hB, .str _ _ rfl⟩
def itoaU : Spec := fun args h => match args with
  | [.int .i64 n] => .ite (decide (-9223372036854775808 ≤ n)) (.ite (decide (n ≤ 9223372036854775807)) (.leaf (.str (Lib.itoa n), h, [])) .fail) .fail
  | _ => .fail
noncomputable def itoa_s : FuncId × Spec := (121, itoaU)
theorem itoa_o0 : SpecOk0 Tryz.prog itoa_s.1 itoa_s.2 := by
  intro args h r hr s V targs hR hv
  simp only [itoa_s, itoaU] at hr
  split at hr
  · rename_i n
    simp only [Tree.Has] at hr
    rcases hr with ⟨h1, ⟨h2, rfl⟩ | ⟨_, hr⟩⟩ | ⟨_, hr⟩
    · simp only [decide_eq_true_eq] at h1 h2
      cases hv with
      | cons _ x _ _ rx rs =>
        cases rs
        cases rx
        exact ⟨s, V, _, itoa_sim n h1 h2 s, .str _, Eff.refl hR []⟩
    · exact hr.elim
    · exact hr.elim
  · exact hr.elim

def atoiOk (l : List UInt8) : Bool := match Lib.atoiAll l with
  | .ok _ => true
  | _ => false
def atoiV (l : List UInt8) : Int := match Lib.atoiAll l with
  | .ok v => v
  | .range => Lib.atoiSat l
  | _ => 0
theorem below_bytes (w : World) (e : TypeId) (b : ByteArray) : Below w.heap.size w (Lib.bytesWorld w e b) := Lib.bytesWorld_below _ _ _
theorem atoi_sim (l : List UInt8) (hl : l.length ≤ 1000) (s : St) : Sim Tryz.prog 120 [.str l] s (.tup [.int .i64 (atoiV l), if atoiOk l then .niliface else .iface 210 .junk]) s := by
  refine ⟨⟨_, _, Tryz.func120, rfl⟩, fun g w rargs hR hA => ?_⟩
  cases hA with
  | cons rv _ _ _ r rs =>
    cases rs
    cases r with
    | str sb _ e =>
      have hsz : sb.size = l.length := by rw [← e]; simp
      obtain ⟨hb, ⟨tp, p, hv⟩, ⟨tp', p', hv'⟩, _⟩ := g.hV
      have hv1 : w.cell? ⟨0, 0, none⟩ = some (.iface tp p) := (hR.below.cell (p := ⟨0, 0, none⟩) (by show 0 < g.base; omega)).trans hv
      have hv2 : w.cell? ⟨1, 0, none⟩ = some (.iface tp' p') := (hR.below.cell (p := ⟨1, 0, none⟩) (by show 1 < g.base; omega)).trans hv'
      cases hx : Lib.atoiAll sb.data.toList with
      | ok v =>
        have hc := Any.strconv_Atoi_ok Tryz.atoiA sb (by omega) v hx w
        refine Calls.mono hc fun e' w' ⟨he, hw⟩ => ?_
        have hB : Below w.heap.size w w' := by
          rcases hw with rfl | ⟨t, rfl⟩
          · exact Below.refl _ _
          · exact below_bytes _ _ _
        refine ⟨_, g, he, .refl g, hR.keep hB, .tup _ _ (.cons _ _ _ _ ?_ (.cons _ _ _ _ ?_ .nil))⟩
        · simp only [atoiV, ← e, hx]; exact .int _ _
        · simp only [atoiOk, ← e, hx, if_true]; exact .niliface
      | range =>
        have hc := Any.strconv_Atoi_range Tryz.atoiA sb (by omega) hx (.iface tp' p') w hv2 (.inr ⟨tp', p', rfl⟩)
        refine Calls.mono hc fun e' w' ⟨N, he, _, _, hB⟩ => ?_
        refine ⟨_, g, he, .refl g, hR.keep hB, .tup _ _ (.cons _ _ _ _ ?_ (.cons _ _ _ _ ?_ .nil))⟩
        · simp only [atoiV, ← e, hx]; exact .int _ _
        · simp only [atoiOk, ← e, hx, Bool.false_eq_true, if_false]; exact .iface _ _ _ (.junk _)
      | _ =>
        have hc := Any.strconv_Atoi_syntax Tryz.atoiA sb (by omega) hx (.iface tp p) w hv1 (.inr ⟨tp, p, rfl⟩)
        refine Calls.mono hc fun e' w' ⟨N, he, _, _, hB⟩ => ?_
        refine ⟨_, g, he, .refl g, hR.keep hB, .tup _ _ (.cons _ _ _ _ ?_ (.cons _ _ _ _ ?_ .nil))⟩
        · simp only [atoiV, ← e, hx]; exact .int _ _
        · simp only [atoiOk, ← e, hx, Bool.false_eq_true, if_false]; exact .iface _ _ _ (.junk _)
def atoiU : Spec := fun args h => match args with
  | [.str l] => .ite (decide (l.length ≤ 1000)) (.ite (atoiOk l) (.leaf (.tup [.int .i64 (atoiV l), .niliface], h, [])) (.leaf (.tup [.int .i64 (atoiV l), .iface 210 .junk], h, []))) .fail
  | _ => .fail
noncomputable def atoi_s : FuncId × Spec := (120, atoiU)
theorem atoi_o0 : SpecOk0 Tryz.prog atoi_s.1 atoi_s.2 := by
  intro args h r hr s V targs hR hv
  simp only [atoi_s, atoiU] at hr
  split at hr
  · rename_i l
    simp only [Tree.Has] at hr
    cases hv with
    | cons _ x _ _ rx rs =>
      cases rs
      cases rx
      rcases hr with ⟨h1, h2⟩ | ⟨_, hr⟩
      · simp only [decide_eq_true_eq] at h1
        have hs := atoi_sim l h1 s
        rcases h2 with ⟨h2, rfl⟩ | ⟨h2, rfl⟩
        · rw [h2] at hs
          exact ⟨s, V, _, hs, .tup _ _ (.cons _ _ _ _ (.int _ _) (.cons _ _ _ _ .niliface .nil)), Eff.refl hR []⟩
        · rw [h2] at hs
          exact ⟨s, V, _, hs, .tup _ _ (.cons _ _ _ _ (.int _ _) (.cons _ _ _ _ (.iface _ _ _ (.junk _)) .nil)), Eff.refl hR []⟩
      · exact hr.elim
  · exact hr.elim
theorem itoa_o : SpecOk Tryz.prog itoa_s.1 itoa_s.2 := itoa_o0.up
theorem atoi_o : SpecOk Tryz.prog atoi_s.1 atoi_s.2 := atoi_o0.up
end Go.Proofs.YthnhbejjikgifaaGreatDoor.TV

/-
  DISK: the list of falls: a copy that may be written, and what is left when its only one is taken away.
-/
namespace Go.Proofs.YthnhbejjikgifaaGreatDoor.TV
open Go Go.RowKit
set_option linter.unusedSimpArgs false
set_option linter.unusedVariables false
set_option maxRecDepth 100000

theorem oc_nils : ofConst (.slice none 0 0) = .slice true [] .exact := rfl
theorem osl_len' {s : St} {o off n c : Nat} : lenT Tryz.prog s 34 (.osl o off n c) = some (.int .i64 n) := by
  simp [lenT, Tryz.underlying34]
theorem fall_sl1 {o : Nat} : sliceT Tryz.prog 34 (.osl o 0 1 1) (some (.int .i64 0)) (some (.int .i64 1)) (some (.int .i64 1)) = some (.osl o 0 1 1) := by
  have hc : Tryz.prog.cellsOf 24 = 3 := by kernel_rfl
  simp [sliceT, Tryz.underlying34, hc, sliceBounds, natOf]
theorem fall_sl2 {o : Nat} : sliceT Tryz.prog 34 (.osl o 0 1 1) none (some (.int .i64 0)) none = some (.osl o 0 0 1) := by
  have hc : Tryz.prog.cellsOf 24 = 3 := by kernel_rfl
  simp [sliceT, Tryz.underlying34, hc, sliceBounds, natOf]
theorem fall_sl3 {o : Nat} : sliceT Tryz.prog 34 (.osl o 0 1 1) (some (.int .i64 1)) none none = some (.osl o 3 0 0) := by
  have hc : Tryz.prog.cellsOf 24 = 3 := by kernel_rfl
  simp [sliceT, Tryz.underlying34, hc, sliceBounds, natOf]
theorem fall_sl4 {o : Nat} : sliceT Tryz.prog 34 (.osl o 0 0 1) (some (.int .i64 0)) (some (.int .i64 1)) none = some (.osl o 0 1 1) := by
  have hc : Tryz.prog.cellsOf 24 = 3 := by kernel_rfl
  simp [sliceT, Tryz.underlying34, hc, sliceBounds, natOf]
theorem fall_c3 : Tryz.prog.cellsOf 24 = 3 := by kernel_rfl
theorem fall_c0 : Tryz.prog.cellsOf 24 ≠ 0 := by
  have hc : Tryz.prog.cellsOf 24 = 3 := by kernel_rfl
  rw [hc]
  decide
/-- append of nothing. -/
theorem OpSim.app0 {P : Program} {s : St} {dst : Option Tmp} {ty : TypeId} {pos : String} {after : Array Edge} {guard : Option (Nat × Bool)} {x y : Operand} {t elem : TypeId} {e : Env} {o off len cap o' off' cap' : Nat}
    (ht : P.underlying t = some (.slice elem)) (hx : ev e x = .osl o off len cap) (hy : ev e y = .osl o' off' 0 cap') (hz : P.cellsOf elem ≠ 0) :
    OpSim P ⟨dst, .call ⟨.builtin .append, #[x, y], #[t, t]⟩, ty, pos, after, guard⟩ e s (.osl o off len cap) s := by
  intro g w a hR hE next Q hn
  have hxr := hE x (by simp [Op.operands, Call.operands])
  have hyr := hE y (by simp [Op.operands, Call.operands])
  rw [hx] at hxr
  rw [hy] at hyr
  generalize hv : a.eval x = rx at hxr
  generalize hv2 : a.eval y = ry at hyr
  cases hxr with
  | osl ad _ _ _ _ cp ha hlc hcc =>
    cases hyr with
    | osl ad2 _ _ _ _ cp2 ha2 hlc2 hcc2 =>
      unfold Oper.wp
      have hle : len ≤ cp := Nat.le_trans hlc hcc
      have hrun : (execOp a.eval ⟨dst, .call ⟨.builtin .append, #[x, y], #[t, t]⟩, ty, pos, after, guard⟩).run P w = .ok (.value (.slice (some ad) len cp)) w := by
        simp [execOp, resolve, invoke, builtin, hv, hv2, Builtin.append_, run_underlying ht, sizeOf_run' (w := w) hz, Builtin.lenOf, Builtin.firstCells, loadCells, loadCellsFrom, hle, storeCells]
      rw [hrun]
      exact hn _ w g (.refl g) hR (.osl _ _ _ _ _ _ ha hlc hcc)
/-- The only one is struck out. -/
theorem OpSim.clear3 {P : Program} {s s' : St} {dst : Option Tmp} {ty : TypeId} {pos : String} {after : Array Edge} {guard : Option (Nat × Bool)} {x : Operand} {t elem : TypeId} {e : Env} {o off cap : Nat} {z : TV}
    (ht : P.underlying t = some (.slice elem)) (hx : ev e x = .osl o off 1 cap) (hc0 : 0 < cap) (hz : zeroT P elem = some z) (hj : isJunk z = false) (h : setCellsT s o off z.cells = some s') :
    OpSim P ⟨dst, .call ⟨.builtin .clear, #[x], #[t]⟩, ty, pos, after, guard⟩ e s (.tup []) s' := by
  intro g w a hR hE next Q hn
  have hxr := hE x (by simp [Op.operands, Call.operands])
  rw [hx] at hxr
  have hzj : z ≠ .junk := by intro e; subst e; simp [isJunk] at hj
  obtain ⟨i, rz, h1, h2, h3, h4⟩ := zero_cells hz g hzj
  generalize hv : a.eval x = rv at hxr
  cases hxr with
  | osl ad _ _ _ _ cap' ha hlc hcc =>
    obtain ⟨b, hb, rfl⟩ := ha (by omega)
    have hrl : VRels g (Builtin.zeroCells rz.cells 1).toList z.cells := by
      have h5 := VRels.flatten_replicate h4 1
      rw [← range_cells] at h5
      have h6 : (List.replicate 1 z.cells).flatten = z.cells := by simp
      rw [h6] at h5
      exact h5
    obtain ⟨w', h5, h6⟩ := setCellsT_ok hR h hb hrl
    unfold Oper.wp
    have hrun : (execOp a.eval ⟨dst, .call ⟨.builtin .clear, #[x], #[t]⟩, ty, pos, after, guard⟩).run P w = .ok (.value (.tuple #[])) w' := by
      have hzv : (zeroValue elem).run P w = .ok rz w := by simp [zeroValue, typeInfo, h1, h2]
      simp [execOp, resolve, invoke, builtin, hv, Builtin.clear_, run_underlying ht, hzv, h5]
    rw [hrun]
    exact hn _ w' g (.refl g) h6 (.tup _ _ .nil)
def i64v (z : Int) : TV := .int .i64 z
theorem z_fall : zeroT Tryz.prog 24 = some (.agg [.int .i64 0, .int .i64 0, .int .i64 0]) := by kernel_rfl
attribute [local go_sem] rt_nil rt_move rt_assign rt_read rt_guard wt_guard wt_none ir_move ir_assign ir_pick ir_build ir_buildSlice ir_load ir_nilCheck ir_bin ir_un ir_convert ir_makeInterface ir_makeFunc ir_slice ir_fieldAddr ir_field ir_indexAddr ir_index ir_lookup ir_extract ir_len ir_min ir_max ir_call ir_append ir_copy ir_alloc ir_box ir_store ir_makeSlice ir_makeMap ir_mapUpdate rd_move rd_assign rd_pick rd_build rd_buildSlice rd_load rd_nilCheck rd_bin rd_un rd_convert rd_slice rd_fieldAddr rd_field rd_indexAddr rd_index rd_extract rd_makeFunc rd_len rd_min rd_max gd_int gd_str gd_bool bn_add bn_sub bn_mul bn_quo bn_rem bn_eql bn_neq bn_lss bn_leq bn_gtr bn_geq bn_sadd bn_seql bn_sneq un_not un_neg oc_int oc_bool putE_some putE_none ev_const ev_tmp ev_func Env.at_set_ne Env.at_set_eq List.length_set if_true if_false Bool.false_eq_true ne_eq not_false_eq_true decide_true decide_false Option.bind_some List.getElem?_cons_zero List.getElem?_cons_succ Nat.succ_ne_zero Bool.true_eq_false Bool.not_true Bool.not_false beq_self_eq_true List.toList_toArray Option.bind_none bq_tl bq_fl bq_tr bq_fr undefT List.map_cons List.map_nil bne_self_eq_false Int.natCast_zero List.length_nil
attribute [local go_sem] none_n newO_n setO_n ld_get set_get get_newO get_setO get_none sp_0 sp_s sp_c sp_n ok_c ok_n cells_agg cells_int cells_str cells_bool cells_ptr cells_slice cells_nilp ok_int ok_str ok_bool ok_ptr ok_slice ok_nilp List.drop_succ_cons List.drop_zero List.length_cons List.length_nil List.take_succ_cons List.take_zero Bool.and_true Bool.and_self List.take_nil List.drop_nil oc_nils eq_self osl_len' Option.map_some Option.map_none
set_option maxHeartbeats 4000000 in
theorem delF_osl {s : St} {o : Nat} {x y z : Int} (h : Is s o [.int .i64 x, .int .i64 y, .int .i64 z] 24) :
    Sim Tryz.prog 128 [.osl o 0 1 1, .int .i64 0, .int .i64 1] s (.osl o 0 0 1) (setO s o [.int .i64 0, .int .i64 0, .int .i64 0] 24) := by
  have c1 : ((0 : Int) == 1) = false := by decide
  have k1 : ((1 : Nat) : Int) = 1 := rfl
  have k0 : ((0 : Nat) : Int) = 0 := rfl
  have hst : setCellsT s o 0 (TV.agg [.int .i64 0, .int .i64 0, .int .i64 0]).cells = some (setO s o [.int .i64 0, .int .i64 0, .int .i64 0] 24) := by
    unfold setCellsT
    rw [show s.objs.get o = _ from h]
    rfl
  refine Sim.body Tryz.func128 rfl ?_
  generalize he : ([TV.osl o 0 1 1, TV.int .i64 0, TV.int .i64 1] ++ List.replicate (Tryz.f128.ntmps - [TV.osl o 0 1 1, TV.int .i64 0, TV.int .i64 1].length) undefT) = e
  have h0 : Env.at e 0 = TV.osl o 0 1 1 := by rw [← he]; rfl
  have h1 : Env.at e 1 = TV.int .i64 0 := by rw [← he]; rfl
  have h2 : Env.at e 2 = TV.int .i64 1 := by rw [← he]; rfl
  have hn : List.length e = 33 := by rw [← he]; rfl
  clear he
  repeat (first | (refine Do.seq ?_) | (refine Do.block ?_) | (apply Do.reads follows; (case hr => first | kernel_rfl | rfl); (case h => (repeat (first | with_reducible exact rt_nil | (apply readsTo.put; (case hw => simp only [go_sem, Nat.reduceEqDiff, Nat.reduceLT, Nat.reduceAdd, Nat.reduceLeDiff, Int.reduceLT, Int.reduceLE, h0, h1, h2, hn, c1, k1, k0, fall_sl1, fall_sl2, fall_sl3, fall_sl4]; done); (case hr => rfl); (case hd => rfl); (case hv => simp only [go_sem, Nat.reduceEqDiff, Nat.reduceLT, Nat.reduceAdd, Nat.reduceLeDiff, Int.reduceLT, Int.reduceLE, h0, h1, h2, hn, c1, k1, k0, fall_sl1, fall_sl2, fall_sl3, fall_sl4]; rfl)) | (apply readsTo.drop; (case hw => simp only [go_sem, Nat.reduceEqDiff, Nat.reduceLT, Nat.reduceAdd, Nat.reduceLeDiff, Int.reduceLT, Int.reduceLE, h0, h1, h2, hn, c1, k1, k0, fall_sl1, fall_sl2, fall_sl3, fall_sl4]; done); (case hd => rfl)) | (apply readsTo.stop; (case hw => simp only [go_sem, Nat.reduceEqDiff, Nat.reduceLT, Nat.reduceAdd, Nat.reduceLeDiff, Int.reduceLT, Int.reduceLE, h0, h1, h2, hn, c1, k1, k0, fall_sl1, fall_sl2, fall_sl3, fall_sl4]; done); (case hr => rfl)))))) | (apply Do.regionS) | (refine DoS.nil ?_) | (apply DoS.eff; (case hw => simp only [go_sem, Nat.reduceEqDiff, Nat.reduceLT, Nat.reduceAdd, Nat.reduceLeDiff, Int.reduceLT, Int.reduceLE, h0, h1, h2, hn, c1, k1, k0, fall_sl1, fall_sl2, fall_sl3, fall_sl4]; done); (case hv => simp only [ef_append, ef_copy, ef_alloc, ef_box, ef_store, mkObj_new, go_sem, Nat.reduceEqDiff, Nat.reduceLT, Nat.reduceAdd, Nat.reduceLeDiff, Int.reduceLT, Int.reduceLE, h0, h1, h2, hn, c1, k1, k0, fall_sl1, fall_sl2, fall_sl3, fall_sl4]; rfl)) | (apply DoS.rd; (case h => (repeat (first | with_reducible exact rt_nil | (apply readsTo.put; (case hw => simp only [go_sem, Nat.reduceEqDiff, Nat.reduceLT, Nat.reduceAdd, Nat.reduceLeDiff, Int.reduceLT, Int.reduceLE, h0, h1, h2, hn, c1, k1, k0, fall_sl1, fall_sl2, fall_sl3, fall_sl4]; done); (case hr => rfl); (case hd => rfl); (case hv => simp only [go_sem, Nat.reduceEqDiff, Nat.reduceLT, Nat.reduceAdd, Nat.reduceLeDiff, Int.reduceLT, Int.reduceLE, h0, h1, h2, hn, c1, k1, k0, fall_sl1, fall_sl2, fall_sl3, fall_sl4]; rfl)) | (apply readsTo.drop; (case hw => simp only [go_sem, Nat.reduceEqDiff, Nat.reduceLT, Nat.reduceAdd, Nat.reduceLeDiff, Int.reduceLT, Int.reduceLE, h0, h1, h2, hn, c1, k1, k0, fall_sl1, fall_sl2, fall_sl3, fall_sl4]; done); (case hd => rfl)) | (apply readsTo.stop; (case hw => simp only [go_sem, Nat.reduceEqDiff, Nat.reduceLT, Nat.reduceAdd, Nat.reduceLeDiff, Int.reduceLT, Int.reduceLE, h0, h1, h2, hn, c1, k1, k0, fall_sl1, fall_sl2, fall_sl3, fall_sl4]; done); (case hr => rfl))))); first | (refine DoS.nil ?_) | (apply DoS.eff; (case hw => simp only [go_sem, Nat.reduceEqDiff, Nat.reduceLT, Nat.reduceAdd, Nat.reduceLeDiff, Int.reduceLT, Int.reduceLE, h0, h1, h2, hn, c1, k1, k0, fall_sl1, fall_sl2, fall_sl3, fall_sl4]; done); (case hv => simp only [ef_append, ef_copy, ef_alloc, ef_box, ef_store, mkObj_new, go_sem, Nat.reduceEqDiff, Nat.reduceLT, Nat.reduceAdd, Nat.reduceLeDiff, Int.reduceLT, Int.reduceLE, h0, h1, h2, hn, c1, k1, k0, fall_sl1, fall_sl2, fall_sl3, fall_sl4]; rfl)))| ((apply Do.region follows; (case hr => first | kernel_rfl | rfl)); first | (refine DoU.nil ?_) | (apply DoU.rd; (case h => (repeat (first | with_reducible exact rt_nil | (apply readsTo.put; (case hw => simp only [go_sem, Nat.reduceEqDiff, Nat.reduceLT, Nat.reduceAdd, Nat.reduceLeDiff, Int.reduceLT, Int.reduceLE, h0, h1, h2, hn, c1, k1, k0, fall_sl1, fall_sl2, fall_sl3, fall_sl4]; done); (case hr => rfl); (case hd => rfl); (case hv => simp only [go_sem, Nat.reduceEqDiff, Nat.reduceLT, Nat.reduceAdd, Nat.reduceLeDiff, Int.reduceLT, Int.reduceLE, h0, h1, h2, hn, c1, k1, k0, fall_sl1, fall_sl2, fall_sl3, fall_sl4]; rfl)) | (apply readsTo.drop; (case hw => simp only [go_sem, Nat.reduceEqDiff, Nat.reduceLT, Nat.reduceAdd, Nat.reduceLeDiff, Int.reduceLT, Int.reduceLE, h0, h1, h2, hn, c1, k1, k0, fall_sl1, fall_sl2, fall_sl3, fall_sl4]; done); (case hd => rfl)) | (apply readsTo.stop; (case hw => simp only [go_sem, Nat.reduceEqDiff, Nat.reduceLT, Nat.reduceAdd, Nat.reduceLeDiff, Int.reduceLT, Int.reduceLE, h0, h1, h2, hn, c1, k1, k0, fall_sl1, fall_sl2, fall_sl3, fall_sl4]; done); (case hr => rfl))))); refine DoU.nil ?_)) | (refine Do.yes ?_ ?_; focus (simp only [go_sem, Nat.reduceEqDiff, Nat.reduceLT, Nat.reduceAdd, Nat.reduceLeDiff, Int.reduceLT, Int.reduceLE, h0, h1, h2, hn, c1, k1, k0, fall_sl1, fall_sl2, fall_sl3, fall_sl4]; done)) | (refine Do.no ?_ ?_; focus (simp only [go_sem, Nat.reduceEqDiff, Nat.reduceLT, Nat.reduceAdd, Nat.reduceLeDiff, Int.reduceLT, Int.reduceLE, h0, h1, h2, hn, c1, k1, k0, fall_sl1, fall_sl2, fall_sl3, fall_sl4]; done)) | (refine Do.skip ?_) | (refine Do.exit ?_) | (refine Do.ret ?_) | (refine Then.ret ?_) | (refine Then.normal ?_) | (refine Then.exit ?_) | (refine Out.ret ?_) | (refine Out.normal ?_) | (refine Out.here ?_) | (refine Out.off (by decide) ?_))
  · (apply Do.regionD follows (by kernel_rfl)); (repeat (first | (refine DoD.op ?_ rfl (OpSim.app0 (o := o) (off := 0) (len := 0) (cap := 1) (o' := o) (off' := 3) (cap' := 0) Tryz.underlying34 (by simp only [go_sem, Nat.reduceEqDiff, Nat.reduceLT, Nat.reduceAdd, Nat.reduceLeDiff, Int.reduceLT, Int.reduceLE, h0, h1, h2, hn, c1, k1, k0, fall_sl1, fall_sl2, fall_sl3, fall_sl4, fall_c3, Int.reduceToNat, Nat.reduceMul, Nat.reduceSub, Nat.reduceAdd]; done) (by simp only [go_sem, Nat.reduceEqDiff, Nat.reduceLT, Nat.reduceAdd, Nat.reduceLeDiff, Int.reduceLT, Int.reduceLE, h0, h1, h2, hn, c1, k1, k0, fall_sl1, fall_sl2, fall_sl3, fall_sl4, fall_c3, Int.reduceToNat, Nat.reduceMul, Nat.reduceSub, Nat.reduceAdd]; done) fall_c0) ?_; focus (simp only [go_sem, Nat.reduceEqDiff, Nat.reduceLT, Nat.reduceAdd, Nat.reduceLeDiff, Int.reduceLT, Int.reduceLE, h0, h1, h2, hn, c1, k1, k0, fall_sl1, fall_sl2, fall_sl3, fall_sl4]; done)) | (apply DoD.read; (case hw => simp only [go_sem, Nat.reduceEqDiff, Nat.reduceLT, Nat.reduceAdd, Nat.reduceLeDiff, Int.reduceLT, Int.reduceLE, h0, h1, h2, hn, c1, k1, k0, fall_sl1, fall_sl2, fall_sl3, fall_sl4]; done); (case hr => rfl); (case hv => simp only [go_sem, Nat.reduceEqDiff, Nat.reduceLT, Nat.reduceAdd, Nat.reduceLeDiff, Int.reduceLT, Int.reduceLE, h0, h1, h2, hn, c1, k1, k0, fall_sl1, fall_sl2, fall_sl3, fall_sl4]; rfl)) | (apply DoD.idle; (case hw => simp only [go_sem, Nat.reduceEqDiff, Nat.reduceLT, Nat.reduceAdd, Nat.reduceLeDiff, Int.reduceLT, Int.reduceLE, h0, h1, h2, hn, c1, k1, k0, fall_sl1, fall_sl2, fall_sl3, fall_sl4]; done); (case hr => rfl)) | (apply DoD.eff; (case hw => simp only [go_sem, Nat.reduceEqDiff, Nat.reduceLT, Nat.reduceAdd, Nat.reduceLeDiff, Int.reduceLT, Int.reduceLE, h0, h1, h2, hn, c1, k1, k0, fall_sl1, fall_sl2, fall_sl3, fall_sl4]; done); (case hr => rfl); (case hv => simp only [ef_append, ef_copy, ef_alloc, ef_box, ef_store, mkObj_new, go_sem, Nat.reduceEqDiff, Nat.reduceLT, Nat.reduceAdd, Nat.reduceLeDiff, Int.reduceLT, Int.reduceLE, h0, h1, h2, hn, c1, k1, k0, fall_sl1, fall_sl2, fall_sl3, fall_sl4]; rfl)))); refine DoD.nil ⟨?_, ?_⟩; (focus (repeat (first | exact Needs.nil | exact Each.nil | (refine Needs.skip rfl ?_) | (refine Needs.load ?_ ?_) | (refine Each.out (by decide +kernel) ?_) | (refine Each.here (by simp only [go_sem, Nat.reduceEqDiff, Nat.reduceLT, Nat.reduceAdd, Nat.reduceLeDiff, Int.reduceLT, Int.reduceLE, h0, h1, h2, hn, c1, k1, k0, fall_sl1, fall_sl2, fall_sl3, fall_sl4] <;> rfl) ?_))))
    repeat (first | (refine Do.seq ?_) | (refine Do.block ?_) | (apply Do.reads follows; (case hr => first | kernel_rfl | rfl); (case h => (repeat (first | with_reducible exact rt_nil | (apply readsTo.put; (case hw => simp only [go_sem, Nat.reduceEqDiff, Nat.reduceLT, Nat.reduceAdd, Nat.reduceLeDiff, Int.reduceLT, Int.reduceLE, h0, h1, h2, hn, c1, k1, k0, fall_sl1, fall_sl2, fall_sl3, fall_sl4]; done); (case hr => rfl); (case hd => rfl); (case hv => simp only [go_sem, Nat.reduceEqDiff, Nat.reduceLT, Nat.reduceAdd, Nat.reduceLeDiff, Int.reduceLT, Int.reduceLE, h0, h1, h2, hn, c1, k1, k0, fall_sl1, fall_sl2, fall_sl3, fall_sl4]; rfl)) | (apply readsTo.drop; (case hw => simp only [go_sem, Nat.reduceEqDiff, Nat.reduceLT, Nat.reduceAdd, Nat.reduceLeDiff, Int.reduceLT, Int.reduceLE, h0, h1, h2, hn, c1, k1, k0, fall_sl1, fall_sl2, fall_sl3, fall_sl4]; done); (case hd => rfl)) | (apply readsTo.stop; (case hw => simp only [go_sem, Nat.reduceEqDiff, Nat.reduceLT, Nat.reduceAdd, Nat.reduceLeDiff, Int.reduceLT, Int.reduceLE, h0, h1, h2, hn, c1, k1, k0, fall_sl1, fall_sl2, fall_sl3, fall_sl4]; done); (case hr => rfl)))))) | (apply Do.regionS) | (refine DoS.nil ?_) | (apply DoS.eff; (case hw => simp only [go_sem, Nat.reduceEqDiff, Nat.reduceLT, Nat.reduceAdd, Nat.reduceLeDiff, Int.reduceLT, Int.reduceLE, h0, h1, h2, hn, c1, k1, k0, fall_sl1, fall_sl2, fall_sl3, fall_sl4]; done); (case hv => simp only [ef_append, ef_copy, ef_alloc, ef_box, ef_store, mkObj_new, go_sem, Nat.reduceEqDiff, Nat.reduceLT, Nat.reduceAdd, Nat.reduceLeDiff, Int.reduceLT, Int.reduceLE, h0, h1, h2, hn, c1, k1, k0, fall_sl1, fall_sl2, fall_sl3, fall_sl4]; rfl)) | (apply DoS.rd; (case h => (repeat (first | with_reducible exact rt_nil | (apply readsTo.put; (case hw => simp only [go_sem, Nat.reduceEqDiff, Nat.reduceLT, Nat.reduceAdd, Nat.reduceLeDiff, Int.reduceLT, Int.reduceLE, h0, h1, h2, hn, c1, k1, k0, fall_sl1, fall_sl2, fall_sl3, fall_sl4]; done); (case hr => rfl); (case hd => rfl); (case hv => simp only [go_sem, Nat.reduceEqDiff, Nat.reduceLT, Nat.reduceAdd, Nat.reduceLeDiff, Int.reduceLT, Int.reduceLE, h0, h1, h2, hn, c1, k1, k0, fall_sl1, fall_sl2, fall_sl3, fall_sl4]; rfl)) | (apply readsTo.drop; (case hw => simp only [go_sem, Nat.reduceEqDiff, Nat.reduceLT, Nat.reduceAdd, Nat.reduceLeDiff, Int.reduceLT, Int.reduceLE, h0, h1, h2, hn, c1, k1, k0, fall_sl1, fall_sl2, fall_sl3, fall_sl4]; done); (case hd => rfl)) | (apply readsTo.stop; (case hw => simp only [go_sem, Nat.reduceEqDiff, Nat.reduceLT, Nat.reduceAdd, Nat.reduceLeDiff, Int.reduceLT, Int.reduceLE, h0, h1, h2, hn, c1, k1, k0, fall_sl1, fall_sl2, fall_sl3, fall_sl4]; done); (case hr => rfl))))); first | (refine DoS.nil ?_) | (apply DoS.eff; (case hw => simp only [go_sem, Nat.reduceEqDiff, Nat.reduceLT, Nat.reduceAdd, Nat.reduceLeDiff, Int.reduceLT, Int.reduceLE, h0, h1, h2, hn, c1, k1, k0, fall_sl1, fall_sl2, fall_sl3, fall_sl4]; done); (case hv => simp only [ef_append, ef_copy, ef_alloc, ef_box, ef_store, mkObj_new, go_sem, Nat.reduceEqDiff, Nat.reduceLT, Nat.reduceAdd, Nat.reduceLeDiff, Int.reduceLT, Int.reduceLE, h0, h1, h2, hn, c1, k1, k0, fall_sl1, fall_sl2, fall_sl3, fall_sl4]; rfl)))| ((apply Do.region follows; (case hr => first | kernel_rfl | rfl)); first | (refine DoU.nil ?_) | (apply DoU.rd; (case h => (repeat (first | with_reducible exact rt_nil | (apply readsTo.put; (case hw => simp only [go_sem, Nat.reduceEqDiff, Nat.reduceLT, Nat.reduceAdd, Nat.reduceLeDiff, Int.reduceLT, Int.reduceLE, h0, h1, h2, hn, c1, k1, k0, fall_sl1, fall_sl2, fall_sl3, fall_sl4]; done); (case hr => rfl); (case hd => rfl); (case hv => simp only [go_sem, Nat.reduceEqDiff, Nat.reduceLT, Nat.reduceAdd, Nat.reduceLeDiff, Int.reduceLT, Int.reduceLE, h0, h1, h2, hn, c1, k1, k0, fall_sl1, fall_sl2, fall_sl3, fall_sl4]; rfl)) | (apply readsTo.drop; (case hw => simp only [go_sem, Nat.reduceEqDiff, Nat.reduceLT, Nat.reduceAdd, Nat.reduceLeDiff, Int.reduceLT, Int.reduceLE, h0, h1, h2, hn, c1, k1, k0, fall_sl1, fall_sl2, fall_sl3, fall_sl4]; done); (case hd => rfl)) | (apply readsTo.stop; (case hw => simp only [go_sem, Nat.reduceEqDiff, Nat.reduceLT, Nat.reduceAdd, Nat.reduceLeDiff, Int.reduceLT, Int.reduceLE, h0, h1, h2, hn, c1, k1, k0, fall_sl1, fall_sl2, fall_sl3, fall_sl4]; done); (case hr => rfl))))); refine DoU.nil ?_)) | (refine Do.yes ?_ ?_; focus (simp only [go_sem, Nat.reduceEqDiff, Nat.reduceLT, Nat.reduceAdd, Nat.reduceLeDiff, Int.reduceLT, Int.reduceLE, h0, h1, h2, hn, c1, k1, k0, fall_sl1, fall_sl2, fall_sl3, fall_sl4]; done)) | (refine Do.no ?_ ?_; focus (simp only [go_sem, Nat.reduceEqDiff, Nat.reduceLT, Nat.reduceAdd, Nat.reduceLeDiff, Int.reduceLT, Int.reduceLE, h0, h1, h2, hn, c1, k1, k0, fall_sl1, fall_sl2, fall_sl3, fall_sl4]; done)) | (refine Do.skip ?_) | (refine Do.exit ?_) | (refine Do.ret ?_) | (refine Then.ret ?_) | (refine Then.normal ?_) | (refine Then.exit ?_) | (refine Out.ret ?_) | (refine Out.normal ?_) | (refine Out.here ?_) | (refine Out.off (by decide) ?_))
    apply DoS.rd
    case h => (repeat (first | with_reducible exact rt_nil | (apply readsTo.put; (case hw => simp only [go_sem, Nat.reduceEqDiff, Nat.reduceLT, Nat.reduceAdd, Nat.reduceLeDiff, Int.reduceLT, Int.reduceLE, h0, h1, h2, hn, c1, k1, k0, fall_sl1, fall_sl2, fall_sl3, fall_sl4]; done); (case hr => rfl); (case hd => rfl); (case hv => simp only [go_sem, Nat.reduceEqDiff, Nat.reduceLT, Nat.reduceAdd, Nat.reduceLeDiff, Int.reduceLT, Int.reduceLE, h0, h1, h2, hn, c1, k1, k0, fall_sl1, fall_sl2, fall_sl3, fall_sl4]; rfl)) | (apply readsTo.drop; (case hw => simp only [go_sem, Nat.reduceEqDiff, Nat.reduceLT, Nat.reduceAdd, Nat.reduceLeDiff, Int.reduceLT, Int.reduceLE, h0, h1, h2, hn, c1, k1, k0, fall_sl1, fall_sl2, fall_sl3, fall_sl4]; done); (case hd => rfl)) | (apply readsTo.stop; (case hw => simp only [go_sem, Nat.reduceEqDiff, Nat.reduceLT, Nat.reduceAdd, Nat.reduceLeDiff, Int.reduceLT, Int.reduceLE, h0, h1, h2, hn, c1, k1, k0, fall_sl1, fall_sl2, fall_sl3, fall_sl4]; done); (case hr => rfl))))
    refine DoS.op ?_ (OpSim.clear3 (o := o) (off := 0) (cap := 1) Tryz.underlying34 (by simp only [go_sem, Nat.reduceEqDiff, Nat.reduceLT, Nat.reduceAdd, Nat.reduceLeDiff, Int.reduceLT, Int.reduceLE, h0, h1, h2, hn, k0, k1, fall_c3, Int.reduceToNat, Nat.reduceMul, Nat.reduceSub]; done) (by decide) z_fall rfl hst) ?_
    · rfl
    repeat (first | (refine Do.seq ?_) | (refine Do.block ?_) | (apply Do.reads follows; (case hr => first | kernel_rfl | rfl); (case h => (repeat (first | with_reducible exact rt_nil | (apply readsTo.put; (case hw => simp only [go_sem, Nat.reduceEqDiff, Nat.reduceLT, Nat.reduceAdd, Nat.reduceLeDiff, Int.reduceLT, Int.reduceLE, h0, h1, h2, hn, c1, k1, k0]; done); (case hr => rfl); (case hd => rfl); (case hv => simp only [go_sem, Nat.reduceEqDiff, Nat.reduceLT, Nat.reduceAdd, Nat.reduceLeDiff, Int.reduceLT, Int.reduceLE, h0, h1, h2, hn, c1, k1, k0]; rfl)) | (apply readsTo.drop; (case hw => simp only [go_sem, Nat.reduceEqDiff, Nat.reduceLT, Nat.reduceAdd, Nat.reduceLeDiff, Int.reduceLT, Int.reduceLE, h0, h1, h2, hn, c1, k1, k0]; done); (case hd => rfl)) | (apply readsTo.stop; (case hw => simp only [go_sem, Nat.reduceEqDiff, Nat.reduceLT, Nat.reduceAdd, Nat.reduceLeDiff, Int.reduceLT, Int.reduceLE, h0, h1, h2, hn, c1, k1, k0]; done); (case hr => rfl)))))) | (apply Do.regionS) | (refine DoS.nil ?_) | (apply DoS.eff; (case hw => simp only [go_sem, Nat.reduceEqDiff, Nat.reduceLT, Nat.reduceAdd, Nat.reduceLeDiff, Int.reduceLT, Int.reduceLE, h0, h1, h2, hn, c1, k1, k0]; done); (case hv => simp only [ef_append, ef_copy, ef_alloc, ef_box, ef_store, mkObj_new, go_sem, Nat.reduceEqDiff, Nat.reduceLT, Nat.reduceAdd, Nat.reduceLeDiff, Int.reduceLT, Int.reduceLE, h0, h1, h2, hn, c1, k1, k0]; rfl)) | (apply DoS.rd; (case h => (repeat (first | with_reducible exact rt_nil | (apply readsTo.put; (case hw => simp only [go_sem, Nat.reduceEqDiff, Nat.reduceLT, Nat.reduceAdd, Nat.reduceLeDiff, Int.reduceLT, Int.reduceLE, h0, h1, h2, hn, c1, k1, k0]; done); (case hr => rfl); (case hd => rfl); (case hv => simp only [go_sem, Nat.reduceEqDiff, Nat.reduceLT, Nat.reduceAdd, Nat.reduceLeDiff, Int.reduceLT, Int.reduceLE, h0, h1, h2, hn, c1, k1, k0]; rfl)) | (apply readsTo.drop; (case hw => simp only [go_sem, Nat.reduceEqDiff, Nat.reduceLT, Nat.reduceAdd, Nat.reduceLeDiff, Int.reduceLT, Int.reduceLE, h0, h1, h2, hn, c1, k1, k0]; done); (case hd => rfl)) | (apply readsTo.stop; (case hw => simp only [go_sem, Nat.reduceEqDiff, Nat.reduceLT, Nat.reduceAdd, Nat.reduceLeDiff, Int.reduceLT, Int.reduceLE, h0, h1, h2, hn, c1, k1, k0]; done); (case hr => rfl))))); first | (refine DoS.nil ?_) | (apply DoS.eff; (case hw => simp only [go_sem, Nat.reduceEqDiff, Nat.reduceLT, Nat.reduceAdd, Nat.reduceLeDiff, Int.reduceLT, Int.reduceLE, h0, h1, h2, hn, c1, k1, k0]; done); (case hv => simp only [ef_append, ef_copy, ef_alloc, ef_box, ef_store, mkObj_new, go_sem, Nat.reduceEqDiff, Nat.reduceLT, Nat.reduceAdd, Nat.reduceLeDiff, Int.reduceLT, Int.reduceLE, h0, h1, h2, hn, c1, k1, k0]; rfl)))| ((apply Do.region follows; (case hr => first | kernel_rfl | rfl)); first | (refine DoU.nil ?_) | (apply DoU.rd; (case h => (repeat (first | with_reducible exact rt_nil | (apply readsTo.put; (case hw => simp only [go_sem, Nat.reduceEqDiff, Nat.reduceLT, Nat.reduceAdd, Nat.reduceLeDiff, Int.reduceLT, Int.reduceLE, h0, h1, h2, hn, c1, k1, k0]; done); (case hr => rfl); (case hd => rfl); (case hv => simp only [go_sem, Nat.reduceEqDiff, Nat.reduceLT, Nat.reduceAdd, Nat.reduceLeDiff, Int.reduceLT, Int.reduceLE, h0, h1, h2, hn, c1, k1, k0]; rfl)) | (apply readsTo.drop; (case hw => simp only [go_sem, Nat.reduceEqDiff, Nat.reduceLT, Nat.reduceAdd, Nat.reduceLeDiff, Int.reduceLT, Int.reduceLE, h0, h1, h2, hn, c1, k1, k0]; done); (case hd => rfl)) | (apply readsTo.stop; (case hw => simp only [go_sem, Nat.reduceEqDiff, Nat.reduceLT, Nat.reduceAdd, Nat.reduceLeDiff, Int.reduceLT, Int.reduceLE, h0, h1, h2, hn, c1, k1, k0]; done); (case hr => rfl))))); refine DoU.nil ?_)) | (refine Do.yes ?_ ?_; focus (simp only [go_sem, Nat.reduceEqDiff, Nat.reduceLT, Nat.reduceAdd, Nat.reduceLeDiff, Int.reduceLT, Int.reduceLE, h0, h1, h2, hn, c1, k1, k0]; done)) | (refine Do.no ?_ ?_; focus (simp only [go_sem, Nat.reduceEqDiff, Nat.reduceLT, Nat.reduceAdd, Nat.reduceLeDiff, Int.reduceLT, Int.reduceLE, h0, h1, h2, hn, c1, k1, k0]; done)) | (refine Do.skip ?_) | (refine Do.exit ?_) | (refine Do.ret ?_) | (refine Then.ret ?_) | (refine Then.normal ?_) | (refine Then.exit ?_) | (refine Out.ret ?_) | (refine Out.normal ?_) | (refine Out.here ?_) | (refine Out.off (by decide) ?_))
    exact Ends.one rfl ⟨by simp only [go_sem, Nat.reduceEqDiff, Nat.reduceLT, Nat.reduceAdd, Nat.reduceLeDiff, Int.reduceLT, Int.reduceLE, hn, h0], rfl⟩
theorem app_fall {s : St} {b : Bool} {x y z : Int} {tok tok' : Tok} :
    appendO Tryz.prog s 34 34 (.slice false [] .exact) (.slice b [.agg [.int .i64 x, .int .i64 y, .int .i64 z]] tok) = some (.gsl s.n 1, newO s [.int .i64 x, .int .i64 y, .int .i64 z] 24) := by
  have hbo : Tryz.prog.bytesOf 24 = 24 := by kernel_rfl
  have hco : Tryz.prog.cellsOf 24 = 3 := by kernel_rfl
  have hz : zeroFits Tryz.prog 24 = true := by kernel_rfl
  simp [appendO, ungsl, Tryz.underlying34, srcKind, srcT, hbo, hco, hz, headOk, slotOk, TV.cells, cellOk, mkObj, newO]
set_option maxHeartbeats 4000000 in
theorem cloneF_sl {s : St} {x y z : Int} {tok : Tok} :
    Sim Tryz.prog 39 [.slice false [.agg [.int .i64 x, .int .i64 y, .int .i64 z]] tok] s (.gsl s.n 1) (newO s [.int .i64 x, .int .i64 y, .int .i64 z] 24) := by
  have hne : binT Tryz.prog .eql 34 (.slice false [.agg [.int .i64 x, .int .i64 y, .int .i64 z]] tok) (.slice true [] .exact) = some (.bool false) := by
    have h : eqT Tryz.prog 100 34 (.slice false [.agg [.int .i64 x, .int .i64 y, .int .i64 z]] tok) (.slice true [] .exact) = some false := by unfold eqT; rw [Tryz.underlying34]; rfl
    simp [binT, h]
  refine Sim.body Tryz.func39 rfl ?_
  generalize he : ([TV.slice false [.agg [.int .i64 x, .int .i64 y, .int .i64 z]] tok] ++ List.replicate (Tryz.f39.ntmps - [TV.slice false [.agg [.int .i64 x, .int .i64 y, .int .i64 z]] tok].length) undefT) = e
  have h0 : Env.at e 0 = TV.slice false [.agg [.int .i64 x, .int .i64 y, .int .i64 z]] tok := by rw [← he]; rfl
  have hn : List.length e = 8 := by rw [← he]; rfl
  clear he
  repeat (first | (refine Do.seq ?_) | (refine Do.block ?_) | (apply Do.reads follows; (case hr => first | kernel_rfl | rfl); (case h => (repeat (first | with_reducible exact rt_nil | (apply readsTo.put; (case hw => simp only [go_sem, Nat.reduceEqDiff, Nat.reduceLT, Nat.reduceAdd, Nat.reduceLeDiff, Int.reduceLT, Int.reduceLE, h0, hn, hne, app_fall]; done); (case hr => rfl); (case hd => rfl); (case hv => simp only [go_sem, Nat.reduceEqDiff, Nat.reduceLT, Nat.reduceAdd, Nat.reduceLeDiff, Int.reduceLT, Int.reduceLE, h0, hn, hne, app_fall]; rfl)) | (apply readsTo.drop; (case hw => simp only [go_sem, Nat.reduceEqDiff, Nat.reduceLT, Nat.reduceAdd, Nat.reduceLeDiff, Int.reduceLT, Int.reduceLE, h0, hn, hne, app_fall]; done); (case hd => rfl)) | (apply readsTo.stop; (case hw => simp only [go_sem, Nat.reduceEqDiff, Nat.reduceLT, Nat.reduceAdd, Nat.reduceLeDiff, Int.reduceLT, Int.reduceLE, h0, hn, hne, app_fall]; done); (case hr => rfl)))))) | (apply Do.regionS) | (refine DoS.nil ?_) | (apply DoS.appO; (case hw => simp only [go_sem, Nat.reduceEqDiff, Nat.reduceLT, Nat.reduceAdd, Nat.reduceLeDiff, Int.reduceLT, Int.reduceLE, h0, hn, hne, app_fall]; done); (case h => simp only [mkObj_new, go_sem, Nat.reduceEqDiff, Nat.reduceLT, Nat.reduceAdd, Nat.reduceLeDiff, Int.reduceLT, Int.reduceLE, h0, hn, hne, app_fall]; rfl)) | (apply DoS.eff; (case hw => simp only [go_sem, Nat.reduceEqDiff, Nat.reduceLT, Nat.reduceAdd, Nat.reduceLeDiff, Int.reduceLT, Int.reduceLE, h0, hn, hne, app_fall]; done); (case hv => simp only [ef_append, ef_copy, ef_alloc, ef_box, ef_store, mkObj_new, go_sem, Nat.reduceEqDiff, Nat.reduceLT, Nat.reduceAdd, Nat.reduceLeDiff, Int.reduceLT, Int.reduceLE, h0, hn, hne, app_fall]; rfl)) | (apply DoS.rd; (case h => (repeat (first | with_reducible exact rt_nil | (apply readsTo.put; (case hw => simp only [go_sem, Nat.reduceEqDiff, Nat.reduceLT, Nat.reduceAdd, Nat.reduceLeDiff, Int.reduceLT, Int.reduceLE, h0, hn, hne, app_fall]; done); (case hr => rfl); (case hd => rfl); (case hv => simp only [go_sem, Nat.reduceEqDiff, Nat.reduceLT, Nat.reduceAdd, Nat.reduceLeDiff, Int.reduceLT, Int.reduceLE, h0, hn, hne, app_fall]; rfl)) | (apply readsTo.drop; (case hw => simp only [go_sem, Nat.reduceEqDiff, Nat.reduceLT, Nat.reduceAdd, Nat.reduceLeDiff, Int.reduceLT, Int.reduceLE, h0, hn, hne, app_fall]; done); (case hd => rfl)) | (apply readsTo.stop; (case hw => simp only [go_sem, Nat.reduceEqDiff, Nat.reduceLT, Nat.reduceAdd, Nat.reduceLeDiff, Int.reduceLT, Int.reduceLE, h0, hn, hne, app_fall]; done); (case hr => rfl))))); first | (refine DoS.nil ?_) | (apply DoS.appO; (case hw => simp only [go_sem, Nat.reduceEqDiff, Nat.reduceLT, Nat.reduceAdd, Nat.reduceLeDiff, Int.reduceLT, Int.reduceLE, h0, hn, hne, app_fall]; done); (case h => simp only [mkObj_new, go_sem, Nat.reduceEqDiff, Nat.reduceLT, Nat.reduceAdd, Nat.reduceLeDiff, Int.reduceLT, Int.reduceLE, h0, hn, hne, app_fall]; rfl)) | (apply DoS.eff; (case hw => simp only [go_sem, Nat.reduceEqDiff, Nat.reduceLT, Nat.reduceAdd, Nat.reduceLeDiff, Int.reduceLT, Int.reduceLE, h0, hn, hne, app_fall]; done); (case hv => simp only [ef_append, ef_copy, ef_alloc, ef_box, ef_store, mkObj_new, go_sem, Nat.reduceEqDiff, Nat.reduceLT, Nat.reduceAdd, Nat.reduceLeDiff, Int.reduceLT, Int.reduceLE, h0, hn, hne, app_fall]; rfl)))| ((apply Do.region follows; (case hr => first | kernel_rfl | rfl)); first | (refine DoU.nil ?_) | (apply DoU.rd; (case h => (repeat (first | with_reducible exact rt_nil | (apply readsTo.put; (case hw => simp only [go_sem, Nat.reduceEqDiff, Nat.reduceLT, Nat.reduceAdd, Nat.reduceLeDiff, Int.reduceLT, Int.reduceLE, h0, hn, hne, app_fall]; done); (case hr => rfl); (case hd => rfl); (case hv => simp only [go_sem, Nat.reduceEqDiff, Nat.reduceLT, Nat.reduceAdd, Nat.reduceLeDiff, Int.reduceLT, Int.reduceLE, h0, hn, hne, app_fall]; rfl)) | (apply readsTo.drop; (case hw => simp only [go_sem, Nat.reduceEqDiff, Nat.reduceLT, Nat.reduceAdd, Nat.reduceLeDiff, Int.reduceLT, Int.reduceLE, h0, hn, hne, app_fall]; done); (case hd => rfl)) | (apply readsTo.stop; (case hw => simp only [go_sem, Nat.reduceEqDiff, Nat.reduceLT, Nat.reduceAdd, Nat.reduceLeDiff, Int.reduceLT, Int.reduceLE, h0, hn, hne, app_fall]; done); (case hr => rfl))))); refine DoU.nil ?_)) | (refine Do.yes ?_ ?_; focus (simp only [go_sem, Nat.reduceEqDiff, Nat.reduceLT, Nat.reduceAdd, Nat.reduceLeDiff, Int.reduceLT, Int.reduceLE, h0, hn, hne, app_fall]; done)) | (refine Do.no ?_ ?_; focus (simp only [go_sem, Nat.reduceEqDiff, Nat.reduceLT, Nat.reduceAdd, Nat.reduceLeDiff, Int.reduceLT, Int.reduceLE, h0, hn, hne, app_fall]; done)) | (refine Do.skip ?_) | (refine Do.exit ?_) | (refine Do.ret ?_) | (refine Then.ret ?_) | (refine Then.normal ?_) | (refine Then.exit ?_) | (refine Out.ret ?_) | (refine Out.normal ?_) | (refine Out.here ?_) | (refine Out.off (by decide) ?_))
  exact Ends.one rfl ⟨by simp only [go_sem, Nat.reduceEqDiff, Nat.reduceLT, Nat.reduceAdd, Nat.reduceLeDiff, Int.reduceLT, Int.reduceLE, hn, setEs, List.replicate_zero, putE_some, List.length_set, Nat.zero_add], rfl⟩

/-! ### As shapes take them -/
abbrev FT : Ty := .cons (.int .i64) (.cons (.int .i64) (.int .i64))
theorem elR_fall {x : FT.den} {e : TV} (h : ElR FT x e) : e = .agg [.int .i64 x.1, .int .i64 x.2.1, .int .i64 x.2.2] := by
  obtain ⟨h1, c1, c2, h2, h3, c3, c4, h4, h5, h6⟩ := h
  have h3 : c1 = _ := h3
  have h5 : c3 = _ := h5
  have h6 : c4 = _ := h6
  subst h3 h5 h6
  subst h4
  cases e <;> first | cases h1 | skip
  exact congrArg TV.agg h2
def fallCloneU : Spec := fun args h => match args with
  | [.slice t b l tok] => if e : t = FT then .ite (decide (l.length = 1)) (.leaf (.oref h.tips.length, { h with tips := h.tips ++ [some (.own (.lst FT 24 (castL e l)))] }, [])) .fail else .fail
  | _ => .fail
noncomputable def fallClone_s : FuncId × Spec := (39, fallCloneU)
theorem vrel_nilslice {g : G} {v : Value} {es : List TV} {tok : Tok} (h : VRel g v (.slice true es tok)) : es = [] := by
  cases h with
  | nils _ _ => rfl
theorem fallClone_o0 : SpecOk0 Tryz.prog fallClone_s.1 fallClone_s.2 := by
  intro args h r hr s V targs hR hv
  simp only [fallClone_s, fallCloneU] at hr
  split at hr
  · rename_i t b l tok
    split at hr
    · rename_i e
      subst e
      simp only [Tree.Has] at hr
      rcases hr with ⟨h1, rfl⟩ | ⟨_, hr⟩
      · simp only [decide_eq_true_eq] at h1
        obtain ⟨x, rfl⟩ : ∃ x, l = [x] := List.length_eq_one_iff.1 h1
        cases hv with
        | cons _ tv _ _ rx rs =>
          cases rs
          cases rx with
          | slice _ _ b' _ es _ tok' hb hes htk =>
            cases es with
            | nil => exact hes.elim
            | cons e es =>
              cases es with
              | cons _ _ => exact hes.2.elim
              | nil =>
                have he := elR_fall hes.1
                have hno : ¬ Held V h (.obj s.n) := fun ⟨j, k, e, h1, h2, h3⟩ => by
                  have : s.n < s.n := (hR.tips j k e h1 h3).old h2
                  omega
                refine ⟨newO s [.int .i64 x.1, .int .i64 x.2.1, .int .i64 x.2.2] 24, ⟨V.ids, V.tks ++ [.ls s.n 1]⟩, .gsl s.n 1, ?_, .ols _ _ _ (by simp [← hR.tlen]), ?_⟩
                rotate_left
                · refine tok_eff (s' := newO s [.int .i64 x.1, .int .i64 x.2.1, .int .i64 x.2.2] 24) hR rfl (fun _ _ h => h) (k := .ls s.n 1) (i := .obj s.n) rfl (by simp [newO]) (Nat.le_refl _) ?_ (fun _ => False) (fun _ h => h.elim) (fun i' hne _ hold => ?_) (fun o e ho => ?_) hno (.inr (Nat.le_refl _)) []
                  · refine Good.lst (es := [e]) (by simp [newO]) (by omega) rfl ?_ ⟨hes.1, trivial⟩
                    rw [he]
                    simp [newO, Tr.get_set, TV.cells]
                  · cases i' with
                    | tip i => rfl
                    | obj o' =>
                      have h1 : o' ≠ s.n := fun e => hne (by rw [e])
                      show (newO s _ _).objs.get o' = _
                      simp only [newO, Tr.get_set]
                      rw [if_neg h1]
                  · cases e
                    have := hR.lt _ ho
                    omega
                · cases b' with
                  | false => rw [he]; exact cloneF_sl
                  | true =>
                    refine ⟨⟨_, _, Tryz.func39, rfl⟩, fun g w rargs hR hA => ?_⟩
                    cases hA with
                    | cons rv _ _ _ r rs =>
                      cases (vrel_nilslice r)
      · exact hr.elim
    · exact hr.elim
  · exact hr.elim
def fallDelU : Spec := fun args h => match args with
  | [.oref j, .int .i64 a, .int .i64 b] => (match (ownOf h.tips j).bind (asLst FT 24) with
    | some l => .ite (decide (a = 0)) (.ite (decide (b = 1)) (.ite (decide (l.length = 1)) (.leaf (.slice FT none [] .no, setOwn h j (.lst FT 24 [(0, 0, 0)]), [])) .fail) .fail) .fail
    | none => .fail)
  | _ => .fail
noncomputable def fallDel_s : FuncId × Spec := (128, fallDelU)
theorem delF_gsl {s : St} {o : Nat} {x y z : Int} (h : Is s o [.int .i64 x, .int .i64 y, .int .i64 z] 24) :
    Sim Tryz.prog 128 [.gsl o 1, .int .i64 0, .int .i64 1] s (.slice false [] .unk) (setO s o [.int .i64 0, .int .i64 0, .int .i64 0] 24) := by
  obtain ⟨h1, h2⟩ := delF_osl h
  refine ⟨h1, fun g w rargs hR hA => ?_⟩
  have hA' : VRels g rargs [.osl o 0 1 1, .int .i64 0, .int .i64 1] := by
    cases hA with
    | cons v _ _ _ r rs => exact .cons _ _ _ _ r.ungrow rs
  refine Calls.mono (h2 g w rargs hR hA') fun e w' ⟨rv, g', k1, k2, k3, k4⟩ => ⟨rv, g', k1, k2, k3, ?_⟩
  cases k4 with
  | osl a _ _ _ _ cap' _ _ _ => exact .empty _ _ _ (fun i e => by cases e) (fun e => by cases e)
theorem fallDel_o0 : SpecOk0 Tryz.prog fallDel_s.1 fallDel_s.2 := by
  intro args h r hr s V targs hR hv
  simp only [fallDel_s, fallDelU] at hr
  split at hr
  · rename_i j a b
    split at hr
    · rename_i l hl
      obtain ⟨c, hc1, hc2⟩ := Option.bind_eq_some_iff.1 hl
      have hcl := asLst_eq hc2
      subst hcl
      simp only [Tree.Has] at hr
      rcases hr with ⟨ha, ⟨hb, ⟨h1, rfl⟩ | ⟨_, hr⟩⟩ | ⟨_, hr⟩⟩ | ⟨_, hr⟩
      · simp only [decide_eq_true_eq] at ha hb h1
        subst ha hb
        obtain ⟨x, rfl⟩ : ∃ x, l = [x] := List.length_eq_one_iff.1 h1
        cases hv with
        | cons _ tv _ _ rx rs =>
          cases rs with
          | cons _ tv2 _ _ rx2 rs2 =>
            cases rs2 with
            | cons _ tv3 _ _ rx3 rs3 =>
              cases rs3
              cases rx2
              cases rx3
              rcases oref_cases rx with ⟨o, rfl, hj⟩ | ⟨o, n, rfl, hj⟩ | ⟨rfl, hj⟩
              · exact (own_get hR (ownOf_read hc1) hj).elim
              · obtain ⟨q0, ⟨q1, q2⟩, es, q3, q4⟩ := own_lst hR (ownOf_read hc1) hj
                have q2 : n = 1 := q2
                subst q2
                cases es with
                | nil => exact q4.elim
                | cons e es =>
                  cases es with
                  | cons _ _ => exact q4.2.elim
                  | nil =>
                    have he := elR_fall q4.1
                    rw [he] at q3
                    have hi : Is s o [.int .i64 x.1, .int .i64 x.2.1, .int .i64 x.2.2] 24 := by
                      unfold Is
                      simpa [TV.cells] using q3
                    refine ⟨_, V, _, delF_gsl hi, .slice _ _ _ _ [] _ _ (fun x hx => by cases hx) trivial trivial, ?_⟩
                    refine own_eff hR hj rfl (own_live hc1) (by rfl) (by rfl) (by rfl) (fun o' ho' => ?_) ?_ []
                    · simp [setO, Tr.get_set, ho']
                    · refine Good.lst (es := [.agg [.int .i64 0, .int .i64 0, .int .i64 0]]) q0 (by omega) rfl ?_ ⟨⟨rfl, [.int .i64 0], [.int .i64 0, .int .i64 0], rfl, rfl, [.int .i64 0], [.int .i64 0], rfl, rfl, rfl⟩, trivial⟩
                      simp [setO, Tr.get_set, TV.cells]
              · exact absurd (own_nil hR (ownOf_read hc1) hj) (by simp)
      · exact hr.elim
      · exact hr.elim
      · exact hr.elim
    · exact hr.elim
  · exact hr.elim
theorem fallClone_o : SpecOk Tryz.prog fallClone_s.1 fallClone_s.2 := fallClone_o0.up
theorem fallDel_o : SpecOk Tryz.prog fallDel_s.1 fallDel_s.2 := fallDel_o0.up
end Go.Proofs.YthnhbejjikgifaaGreatDoor.TV

/-
  DX: functions that leave the store as it is: a text of a number.
-/
namespace Go.Proofs.YthnhbejjikgifaaGreatDoor.TV
open Go Go.RowKit
set_option linter.unusedSimpArgs false
set_option linter.unusedVariables false
section
variable {P : Program}
noncomputable def quietIS (F : Int → Option (List UInt8 × Unit)) : Spec := fun args h => match args with
  | [.int .i64 n] => .opt (F n) fun r => .leaf (.str r.1, h, [])
  | _ => .fail
theorem quietIS_ok {f : FuncId} {F : Int → Option (List UInt8 × Unit)} (hf : FnOk P f ⟨[.ty (.int .i64)], [], [], [.ty .str], [], []⟩ fun d => F d.1) : SpecOk P f (quietIS F) := by
  intro args h r hr s V targs hR hv
  unfold quietIS at hr
  split at hr
  · rename_i n
    simp only [Tree.Has] at hr
    obtain ⟨x, hx, rfl⟩ := hr
    cases hv with
    | cons _ tv _ _ rx rs =>
      cases rs
      cases rx
      obtain ⟨s2, v, V2, h2, vs, rvs, m, tips2, hs, A⟩ := hf (n, ()) x hx St.none ⟨[], []⟩ [.int .i64 n] HRel.none (.cons _ _ _ _ (.int _ _) .nil)
      have hm : m = [] := List.length_eq_zero_iff.1 A.mlen
      subst hm
      have hlen : vs.length = 1 := A.len
      obtain ⟨u, rfl⟩ := List.length_eq_one_iff.1 hlen
      have ho := A.outs
      cases ho with
      | cons _ t _ _ ru rus =>
        cases rus
        have hex : exL [] h2.tips [.ty .str] [u] = some (x, tips2) := A.ex
        have hval : v = t := A.val
        subst hval
        simp only [exL, exV] at hex
        split at hex
        · rename_i y tips hy
          split at hy
          · rename_i z hz
            have hrel := decV_rel hz ru
            have ht : v = .str z := by
              obtain ⟨q1, q2⟩ := hrel
              have q2 : TV.cells v = [TV.str z] := q2
              cases v <;> first | (cases q1; done) | (simp only [TV.cells, List.cons.injEq, and_true] at q2; exact q2)
            cases hy
            cases hex
            subst ht
            exact ⟨s, V, _, (hs.pure rfl rfl).at s, .str _, Eff.refl hR [], fun _ => rfl⟩
          · cases hy
        · cases hex
  · exact hr.elim
end
end Go.Proofs.YthnhbejjikgifaaGreatDoor.TV

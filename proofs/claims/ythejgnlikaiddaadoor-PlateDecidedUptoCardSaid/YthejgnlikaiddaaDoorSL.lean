/- Texts of a proof: lemmas. -/
import Derived.Test.YthejgnlikaiddaaDoorRl
import Derived.Shelf.Sort.Plain
import Derived.Shelf.Slices.CompactI
import Derived.Shelf.Strconv.Itoa3
set_option maxRecDepth 100000
namespace Go.Proofs
open Go Go.Mu Go.Shelf

def Tryd.rho20 : Ren := ⟨fun x => if x = 20 then 85 else x, fun x => if x = 0 then 0 else if x = 3 then 3 else if x = 4 then 4 else if x = 22 then 22 else x, fun x => x⟩
theorem Tryd.lays20 : Lays2.n20 Tryd.prog Tryd.rho20 where
  mixed := by kernel_rfl
  f20 := by kernel_rfl
  t0 := by kernel_rfl
  a0 := fun _ => by rfl
  z0 := fun _ => by rfl
  v0 := fun _ => by rfl
  t3 := by kernel_rfl
  a3 := fun _ => by rfl
  z3 := fun _ => by rfl
  v3 := fun _ => by rfl
  t4 := by kernel_rfl
  a4 := fun _ => by rfl
  z4 := fun _ => by rfl
  v4 := fun _ => by rfl
  t22 := by kernel_rfl
  a22 := fun _ => by rfl
  z22 := fun _ => by rfl
  v22 := fun _ => by rfl
  i3 := by kernel_rfl

def Tryd.rho189 : Ren := ⟨fun x => if x = 125 then 96 else if x = 128 then 110 else if x = 129 then 111 else if x = 189 then 84 else if x = 215 then 121 else if x = 216 then 107 else if x = 257 then 95 else if x = 294 then 101 else if x = 295 then 102 else if x = 296 then 103 else if x = 297 then 104 else if x = 298 then 105 else if x = 299 then 106 else if x = 300 then 108 else if x = 301 then 109 else if x = 328 then 116 else if x = 329 then 117 else if x = 330 then 118 else if x = 331 then 119 else if x = 332 then 120 else if x = 343 then 124 else x, fun x => if x = 0 then 0 else if x = 3 then 3 else if x = 4 then 4 else if x = 5 then 5 else if x = 9 then 9 else if x = 28 then 22 else if x = 46 then 76 else if x = 51 then 136 else if x = 53 then 73 else if x = 131 then 115 else if x = 182 then 144 else if x = 183 then 145 else if x = 218 then 153 else if x = 222 then 156 else if x = 228 then 158 else if x = 229 then 98 else x, fun x => x⟩
theorem Tryd.lays189 : Lays.n189 Tryd.prog Tryd.rho189 where
  mixed := by kernel_rfl
  f125 := by kernel_rfl
  f128 := by kernel_rfl
  f129 := by kernel_rfl
  f189 := by kernel_rfl
  f215 := by kernel_rfl
  f216 := by kernel_rfl
  f257 := by kernel_rfl
  f294 := by kernel_rfl
  f295 := by kernel_rfl
  f296 := by kernel_rfl
  f297 := by kernel_rfl
  f298 := by kernel_rfl
  f299 := by kernel_rfl
  f300 := by kernel_rfl
  f301 := by kernel_rfl
  f328 := by kernel_rfl
  f329 := by kernel_rfl
  f330 := by kernel_rfl
  f331 := by kernel_rfl
  f332 := by kernel_rfl
  f343 := by kernel_rfl
  t0 := by kernel_rfl
  a0 := fun _ => by rfl
  z0 := fun _ => by rfl
  v0 := fun _ => by rfl
  t3 := by kernel_rfl
  a3 := fun _ => by rfl
  z3 := fun _ => by rfl
  v3 := fun _ => by rfl
  t4 := by kernel_rfl
  a4 := fun _ => by rfl
  z4 := fun _ => by rfl
  v4 := fun _ => by rfl
  t5 := by kernel_rfl
  a5 := fun _ => by rfl
  z5 := fun _ => by rfl
  v5 := fun _ => by rfl
  t9 := by kernel_rfl
  a9 := fun _ => by rfl
  z9 := fun _ => by rfl
  v9 := fun _ => by rfl
  t28 := by kernel_rfl
  a28 := fun _ => by rfl
  z28 := fun _ => by rfl
  v28 := fun _ => by rfl
  t46 := by kernel_rfl
  a46 := fun _ => by rfl
  z46 := fun _ => by rfl
  v46 := fun _ => by rfl
  t51 := by kernel_rfl
  a51 := fun _ => by rfl
  z51 := fun _ => by rfl
  v51 := fun _ => by rfl
  t53 := by kernel_rfl
  a53 := fun _ => by rfl
  z53 := fun _ => by rfl
  v53 := fun _ => by rfl
  t131 := by kernel_rfl
  a131 := fun _ => by rfl
  z131 := fun _ => by rfl
  v131 := fun _ => by rfl
  t182 := by kernel_rfl
  a182 := fun _ => by rfl
  z182 := fun _ => by rfl
  v182 := fun _ => by rfl
  t183 := by kernel_rfl
  a183 := fun _ => by rfl
  z183 := fun _ => by rfl
  v183 := fun _ => by rfl
  t218 := by kernel_rfl
  a218 := fun _ => by rfl
  z218 := fun _ => by rfl
  v218 := fun _ => by rfl
  t222 := by kernel_rfl
  a222 := fun _ => by rfl
  z222 := fun _ => by rfl
  v222 := fun _ => by rfl
  t228 := by kernel_rfl
  a228 := fun _ => by rfl
  z228 := fun _ => by rfl
  v228 := fun _ => by rfl
  t229 := by kernel_rfl
  a229 := fun _ => by rfl
  z229 := fun _ => by rfl
  v229 := fun _ => by rfl

def Tryd.rho171 : Ren := ⟨fun x => if x = 129 then 111 else if x = 171 then 45 else if x = 243 then 77 else if x = 246 then 88 else if x = 283 then 97 else if x = 284 then 98 else if x = 285 then 99 else if x = 286 then 100 else if x = 317 then 112 else if x = 318 then 113 else if x = 319 then 114 else if x = 320 then 115 else if x = 337 then 122 else if x = 338 then 123 else x, fun x => if x = 0 then 0 else if x = 2 then 2 else if x = 3 then 3 else if x = 4 then 4 else if x = 5 then 5 else if x = 9 then 9 else if x = 20 then 20 else if x = 37 then 50 else if x = 46 then 76 else if x = 51 then 136 else if x = 53 then 73 else if x = 171 then 139 else if x = 173 then 141 else if x = 212 then 151 else if x = 213 then 152 else if x = 232 then 160 else if x = 233 then 161 else x, fun x => if x = 17 then 0 else if x = 18 then 1 else if x = 19 then 2 else x⟩
theorem Tryd.lays171 : LaysM.n171 Tryd.prog Tryd.rho171 where
  mixed := by kernel_rfl
  f129 := by kernel_rfl
  f171 := by kernel_rfl
  f243 := by kernel_rfl
  f246 := by kernel_rfl
  f283 := by kernel_rfl
  f284 := by kernel_rfl
  f285 := by kernel_rfl
  f286 := by kernel_rfl
  f317 := by kernel_rfl
  f318 := by kernel_rfl
  f319 := by kernel_rfl
  f320 := by kernel_rfl
  f337 := by kernel_rfl
  f338 := by kernel_rfl
  t0 := by kernel_rfl
  a0 := fun _ => by rfl
  z0 := fun _ => by rfl
  v0 := fun _ => by rfl
  t2 := by kernel_rfl
  a2 := fun _ => by rfl
  z2 := fun _ => by rfl
  v2 := fun _ => by rfl
  t3 := by kernel_rfl
  a3 := fun _ => by rfl
  z3 := fun _ => by rfl
  v3 := fun _ => by rfl
  t4 := by kernel_rfl
  a4 := fun _ => by rfl
  z4 := fun _ => by rfl
  v4 := fun _ => by rfl
  t5 := by kernel_rfl
  a5 := fun _ => by rfl
  z5 := fun _ => by rfl
  v5 := fun _ => by rfl
  t9 := by kernel_rfl
  a9 := fun _ => by rfl
  z9 := fun _ => by rfl
  v9 := fun _ => by rfl
  t20 := by kernel_rfl
  a20 := fun _ => by rfl
  z20 := fun _ => by rfl
  v20 := fun _ => by rfl
  t37 := by kernel_rfl
  a37 := fun _ => by rfl
  z37 := fun _ => by rfl
  v37 := fun _ => by rfl
  t46 := by kernel_rfl
  a46 := fun _ => by rfl
  z46 := fun _ => by rfl
  v46 := fun _ => by rfl
  t51 := by kernel_rfl
  a51 := fun _ => by rfl
  z51 := fun _ => by rfl
  v51 := fun _ => by rfl
  t53 := by kernel_rfl
  a53 := fun _ => by rfl
  z53 := fun _ => by rfl
  v53 := fun _ => by rfl
  t171 := by kernel_rfl
  a171 := fun _ => by rfl
  z171 := fun _ => by rfl
  v171 := fun _ => by rfl
  t173 := by kernel_rfl
  a173 := fun _ => by rfl
  z173 := fun _ => by rfl
  v173 := fun _ => by rfl
  t212 := by kernel_rfl
  a212 := fun _ => by rfl
  z212 := fun _ => by rfl
  v212 := fun _ => by rfl
  t213 := by kernel_rfl
  a213 := fun _ => by rfl
  z213 := fun _ => by rfl
  t232 := by kernel_rfl
  a232 := fun _ => by rfl
  z232 := fun _ => by rfl
  v232 := fun _ => by rfl
  t233 := by kernel_rfl
  a233 := fun _ => by rfl
  z233 := fun _ => by rfl
  v233 := fun _ => by rfl
  g17 := by kernel_rfl
  g18 := by kernel_rfl
  g19 := by kernel_rfl
  i0 := by kernel_rfl
  i2 := by kernel_rfl
  i3 := by kernel_rfl
  i4 := by kernel_rfl
  i5 := by kernel_rfl
  i9 := by kernel_rfl
  i20 := by kernel_rfl
  i37 := by kernel_rfl
  i46 := by kernel_rfl
  i51 := by kernel_rfl
  i53 := by kernel_rfl
  i171 := by kernel_rfl
  i173 := by kernel_rfl
  i212 := by kernel_rfl
  i232 := by kernel_rfl
  i233 := by kernel_rfl
  m17 := by kernel_rfl
  m18 := by kernel_rfl
  m19 := by kernel_rfl

end Go.Proofs

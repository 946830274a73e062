/- The contracts of the library that are used; memory, letters, nodes, Valid of both packages, the order of nodes. -/
import Derived.Shelf.Strings.OnBuilder
import Derived.Shelf.Strings.Repeat
import Derived.Shelf.LaysM
import Derived.Shelf.Strconv.Itoa3
import Derived.Shelf.LaysC
import Derived.Shelf.Strconv.AtoiAll
import Derived.Test.YtnleljpebnnhfaaGreatDoorProg
import Derived.WalkKit
import Derived.WalkSpells
import Derived.WalkLawsBesides
import Derived.Deep.QuietTactic
import Derived.BigQuiet
import Derived.StillTailTactics
import Derived.Deep.RegionHeld3
import Derived.Deep.LoopGhost
import Derived.Lib.Hide
import Derived.BigGuardPart
import Derived.Below

namespace Go.Proofs
open Go.Shelf
def Tryz.lays156_ren : Go.Shelf.Ren := ⟨fun | 156 => 115 | 165 => 129 | 166 => 130 | 169 => 132 | 240 => 145 | 241 => 146 | 276 => 152 | 277 => 153 | n => n, fun | 31 => 117 | 9 => 9 | 3 => 3 | 4 => 4 | 0 => 0 | 20 => 20 | 72 => 153 | 76 => 107 | 70 => 151 | 37 => 43 | 75 => 106 | 127 => 169 | 164 => 175 | 5 => 5 | 80 => 109 | n => n, fun | n => n⟩
theorem Tryz.lays156 : Go.Proofs.Lays.n156 Tryz.prog Tryz.lays156_ren := {
  mixed := by kernel_rfl
  f156 := Tryz.func115.trans (congrArg some (by kernel_rfl))
  f165 := Tryz.func129.trans (congrArg some (by kernel_rfl))
  f166 := Tryz.func130.trans (congrArg some (by kernel_rfl))
  f169 := Tryz.func132.trans (congrArg some (by kernel_rfl))
  f240 := Tryz.func145.trans (congrArg some (by kernel_rfl))
  f241 := Tryz.func146.trans (congrArg some (by kernel_rfl))
  f276 := Tryz.func152.trans (congrArg some (by kernel_rfl))
  f277 := Tryz.func153.trans (congrArg some (by kernel_rfl))
  t0 := Tryz.underlying0
  a0 := Tryz.isAgg0
  z0 := Tryz.sizeOf0
  v0 := Tryz.zeroValue0
  t3 := Tryz.underlying3
  a3 := Tryz.isAgg3
  z3 := Tryz.sizeOf3
  v3 := Tryz.zeroValue3
  t4 := Tryz.underlying4
  a4 := Tryz.isAgg4
  z4 := Tryz.sizeOf4
  v4 := Tryz.zeroValue4
  t9 := Tryz.underlying9
  a9 := Tryz.isAgg9
  z9 := Tryz.sizeOf9
  v9 := Tryz.zeroValue9
  t20 := Tryz.underlying20
  a20 := Tryz.isAgg20
  z20 := Tryz.sizeOf20
  v20 := Tryz.zeroValue20
  t31 := Tryz.underlying117
  a31 := Tryz.isAgg117
  z31 := Tryz.sizeOf117
  v31 := Tryz.zeroValue117
  t37 := Tryz.underlying43
  a37 := Tryz.isAgg43
  z37 := Tryz.sizeOf43
  v37 := Tryz.zeroValue43
  t70 := Tryz.underlying151
  a70 := Tryz.isAgg151
  z70 := Tryz.sizeOf151
  v70 := Tryz.zeroValue151
  t72 := Tryz.underlying153
  a72 := Tryz.isAgg153
  z72 := Tryz.sizeOf153
  v72 := Tryz.zeroValue153
  t75 := Tryz.underlying106
  a75 := Tryz.isAgg106
  z75 := Tryz.sizeOf106
  v75 := Tryz.zeroValue106
  t76 := Tryz.underlying107
  a76 := Tryz.isAgg107
  z76 := Tryz.sizeOf107
  v76 := Tryz.zeroValue107
  t127 := Tryz.underlying169
  a127 := Tryz.isAgg169
  z127 := Tryz.sizeOf169
  v127 := Tryz.zeroValue169
  t164 := Tryz.underlying175
  a164 := Tryz.isAgg175
  z164 := Tryz.sizeOf175
  v164 := Tryz.zeroValue175 }
theorem Tryz.Builder_Extra_156 : Builder.Extra Tryz.prog Tryz.lays156_ren := {
  sizeBuilder := by kernel_rfl
  liesBuilder := by kernel_rfl
  t5 := Tryz.underlying5
  a5 := Tryz.isAgg5
  z5 := Tryz.sizeOf5
  v5 := Tryz.zeroValue5
  infoByte := by kernel_rfl
  cellsByte := by kernel_rfl
  sizeByte := by kernel_rfl
  neB5 := by decide }
open Go.RowKit in
theorem Tryz.strings_Join_none (a : Option Addr) (c : Nat) (sep : ByteArray) (w : World) :
    Calls Tryz.prog 115 #[.slice a 0 c, .string sep] w fun e w' => e = .returned (.string ⟨#[]⟩) ∧ w' = w := Any.strings_Join_none Tryz.lays156 Tryz.Builder_Extra_156 a c sep w
open Go.RowKit in
theorem Tryz.strings_Join (bk o c : Nat) (xs : List ByteArray) (sep : ByteArray) (w : World) (hcells : ∀ (j : Nat) x, xs[j]? = some x → w.cell? ⟨bk, o + j, none⟩ = some (.string x)) (hbk : bk < w.heap.size) (hN : xs.length ≤ 140737488355328) (hcap : xs.length ≤ c) (hlen : (Lib.join (xs.map (·.data.toList)) sep.data.toList).length ≤ 140737488355328) :
    Calls Tryz.prog 115 #[.slice (some ⟨bk, o, none⟩) xs.length c, .string sep] w fun e w' => e = .returned (.string ⟨(Lib.join (xs.map (·.data.toList)) sep.data.toList).toArray⟩) ∧ Below w.heap.size w w' := Any.strings_Join Tryz.lays156 Tryz.Builder_Extra_156 bk o c xs sep w hcells hbk hN hcap hlen
open Go.RowKit in
def Tryz.laysM171_ren : Go.Shelf.Ren := ⟨fun | 171 => 56 | 243 => 85 | 246 => 108 | 283 => 116 | 284 => 117 | 285 => 118 | 286 => 119 | 129 => 134 | 317 => 133 | 318 => 135 | 319 => 136 | 320 => 137 | 337 => 147 | 338 => 148 | n => n, fun | 3 => 3 | 9 => 9 | 2 => 2 | 4 => 4 | 171 => 133 | 0 => 0 | 53 => 134 | 37 => 43 | 5 => 5 | 173 => 137 | 212 => 156 | 51 => 157 | 20 => 20 | 213 => 158 | 46 => 147 | 232 => 178 | 233 => 179 | n => n, fun | 17 => 0 | 18 => 3 | 19 => 4 | n => n⟩
theorem Tryz.laysM171 : Go.Proofs.LaysM.n171 Tryz.prog Tryz.laysM171_ren := {
  mixed := by kernel_rfl
  f129 := Tryz.func134.trans (congrArg some (by kernel_rfl))
  f171 := Tryz.func56.trans (congrArg some (by kernel_rfl))
  f243 := Tryz.func85.trans (congrArg some (by kernel_rfl))
  f246 := Tryz.func108.trans (congrArg some (by kernel_rfl))
  f283 := Tryz.func116.trans (congrArg some (by kernel_rfl))
  f284 := Tryz.func117.trans (congrArg some (by kernel_rfl))
  f285 := Tryz.func118.trans (congrArg some (by kernel_rfl))
  f286 := Tryz.func119.trans (congrArg some (by kernel_rfl))
  f317 := Tryz.func133.trans (congrArg some (by kernel_rfl))
  f318 := Tryz.func135.trans (congrArg some (by kernel_rfl))
  f319 := Tryz.func136.trans (congrArg some (by kernel_rfl))
  f320 := Tryz.func137.trans (congrArg some (by kernel_rfl))
  f337 := Tryz.func147.trans (congrArg some (by kernel_rfl))
  f338 := Tryz.func148.trans (congrArg some (by kernel_rfl))
  t0 := Tryz.underlying0
  a0 := Tryz.isAgg0
  z0 := Tryz.sizeOf0
  v0 := Tryz.zeroValue0
  t2 := Tryz.underlying2
  a2 := Tryz.isAgg2
  z2 := Tryz.sizeOf2
  v2 := Tryz.zeroValue2
  t3 := Tryz.underlying3
  a3 := Tryz.isAgg3
  z3 := Tryz.sizeOf3
  v3 := Tryz.zeroValue3
  t4 := Tryz.underlying4
  a4 := Tryz.isAgg4
  z4 := Tryz.sizeOf4
  v4 := Tryz.zeroValue4
  t5 := Tryz.underlying5
  a5 := Tryz.isAgg5
  z5 := Tryz.sizeOf5
  v5 := Tryz.zeroValue5
  t9 := Tryz.underlying9
  a9 := Tryz.isAgg9
  z9 := Tryz.sizeOf9
  v9 := Tryz.zeroValue9
  t20 := Tryz.underlying20
  a20 := Tryz.isAgg20
  z20 := Tryz.sizeOf20
  v20 := Tryz.zeroValue20
  t37 := Tryz.underlying43
  a37 := Tryz.isAgg43
  z37 := Tryz.sizeOf43
  v37 := Tryz.zeroValue43
  t46 := Tryz.underlying147
  a46 := Tryz.isAgg147
  z46 := Tryz.sizeOf147
  v46 := Tryz.zeroValue147
  t51 := Tryz.underlying157
  a51 := Tryz.isAgg157
  z51 := Tryz.sizeOf157
  v51 := Tryz.zeroValue157
  t53 := Tryz.underlying134
  a53 := Tryz.isAgg134
  z53 := Tryz.sizeOf134
  v53 := Tryz.zeroValue134
  t171 := Tryz.underlying133
  a171 := Tryz.isAgg133
  z171 := Tryz.sizeOf133
  v171 := Tryz.zeroValue133
  t173 := Tryz.underlying137
  a173 := Tryz.isAgg137
  z173 := Tryz.sizeOf137
  v173 := Tryz.zeroValue137
  t212 := Tryz.underlying156
  a212 := Tryz.isAgg156
  z212 := Tryz.sizeOf156
  v212 := Tryz.zeroValue156
  t213 := Tryz.underlying158
  a213 := Tryz.isAgg158
  z213 := Tryz.sizeOf158
  t232 := Tryz.underlying178
  a232 := Tryz.isAgg178
  z232 := Tryz.sizeOf178
  v232 := Tryz.zeroValue178
  t233 := Tryz.underlying179
  a233 := Tryz.isAgg179
  z233 := Tryz.sizeOf179
  v233 := Tryz.zeroValue179
  g17 := by kernel_rfl
  g18 := by kernel_rfl
  g19 := by kernel_rfl
  i0 := by kernel_rfl
  i2 := by kernel_rfl
  i3 := by kernel_rfl
  i4 := by kernel_rfl
  i5 := by kernel_rfl
  i9 := by kernel_rfl
  i20 := by kernel_rfl
  i37 := by kernel_rfl
  i46 := by kernel_rfl
  i51 := by kernel_rfl
  i53 := by kernel_rfl
  i171 := by kernel_rfl
  i173 := by kernel_rfl
  i212 := by kernel_rfl
  i232 := by kernel_rfl
  i233 := by kernel_rfl
  m17 := by kernel_rfl
  m18 := by kernel_rfl
  m19 := by kernel_rfl }
open Go.RowKit Go.Sort Go.Lib in
theorem Tryz.strconv_Itoa (n : Int) (h0 : -9223372036854775808 ≤ n) (h1 : n ≤ 9223372036854775807) (w : World) (htab : Lib.TabIs Tryz.prog w "internal/strconv.uint64pow10" .u64 Lib.pow10Tab) :
    Calls Tryz.prog 56 #[.int .i64 n] w fun e w' => e = .returned (.string ⟨(Lib.itoa n).toArray⟩) ∧ ∃ k os, w' = grow (w.drewN k) os := Any.strconv_Itoa Tryz.laysM171 n h0 h1 w htab
def Tryz.laysC172_ren : Go.Shelf.Ren := ⟨fun | 172 => 88 | 244 => 109 | 245 => 110 | 247 => 120 | 279 => 121 | 280 => 122 | 281 => 123 | 282 => 124 | 287 => 138 | 316 => 139 | 171 => 56 | 205 => 140 | 321 => 149 | 322 => 150 | 243 => 85 | 246 => 108 | 283 => 116 | 284 => 117 | 285 => 118 | 286 => 119 | 129 => 134 | 317 => 133 | 318 => 135 | 319 => 136 | 320 => 137 | 337 => 147 | 338 => 148 | n => n, fun | 9 => 9 | 3 => 3 | 75 => 106 | 76 => 107 | 4 => 4 | 5 => 5 | 167 => 139 | 37 => 43 | 0 => 0 | 85 => 140 | 2 => 2 | 168 => 142 | 53 => 134 | 175 => 160 | 46 => 147 | 210 => 163 | 127 => 169 | 145 => 174 | 143 => 172 | 21 => 21 | 171 => 133 | 173 => 137 | 212 => 156 | 51 => 157 | 20 => 20 | 213 => 158 | 232 => 178 | 233 => 179 | 80 => 109 | n => n, fun | 15 => 1 | 16 => 2 | 17 => 0 | 18 => 3 | 19 => 4 | n => n⟩
theorem Tryz.laysC172 : Go.Proofs.LaysC.n172 Tryz.prog Tryz.laysC172_ren := {
  mixed := by kernel_rfl
  f129 := Tryz.func134.trans (congrArg some (by kernel_rfl))
  f171 := Tryz.func56.trans (congrArg some (by kernel_rfl))
  f172 := Tryz.func88.trans (congrArg some (by kernel_rfl))
  f205 := Tryz.func140.trans (congrArg some (by kernel_rfl))
  f243 := Tryz.func85.trans (congrArg some (by kernel_rfl))
  f244 := Tryz.func109.trans (congrArg some (by kernel_rfl))
  f245 := Tryz.func110.trans (congrArg some (by kernel_rfl))
  f246 := Tryz.func108.trans (congrArg some (by kernel_rfl))
  f247 := Tryz.func120.trans (congrArg some (by kernel_rfl))
  f279 := Tryz.func121.trans (congrArg some (by kernel_rfl))
  f280 := Tryz.func122.trans (congrArg some (by kernel_rfl))
  f281 := Tryz.func123.trans (congrArg some (by kernel_rfl))
  f282 := Tryz.func124.trans (congrArg some (by kernel_rfl))
  f283 := Tryz.func116.trans (congrArg some (by kernel_rfl))
  f284 := Tryz.func117.trans (congrArg some (by kernel_rfl))
  f285 := Tryz.func118.trans (congrArg some (by kernel_rfl))
  f286 := Tryz.func119.trans (congrArg some (by kernel_rfl))
  f287 := Tryz.func138.trans (congrArg some (by kernel_rfl))
  f316 := Tryz.func139.trans (congrArg some (by kernel_rfl))
  f317 := Tryz.func133.trans (congrArg some (by kernel_rfl))
  f318 := Tryz.func135.trans (congrArg some (by kernel_rfl))
  f319 := Tryz.func136.trans (congrArg some (by kernel_rfl))
  f320 := Tryz.func137.trans (congrArg some (by kernel_rfl))
  f321 := Tryz.func149.trans (congrArg some (by kernel_rfl))
  f322 := Tryz.func150.trans (congrArg some (by kernel_rfl))
  f337 := Tryz.func147.trans (congrArg some (by kernel_rfl))
  f338 := Tryz.func148.trans (congrArg some (by kernel_rfl))
  t0 := Tryz.underlying0
  a0 := Tryz.isAgg0
  z0 := Tryz.sizeOf0
  v0 := Tryz.zeroValue0
  t2 := Tryz.underlying2
  a2 := Tryz.isAgg2
  z2 := Tryz.sizeOf2
  v2 := Tryz.zeroValue2
  t3 := Tryz.underlying3
  a3 := Tryz.isAgg3
  z3 := Tryz.sizeOf3
  v3 := Tryz.zeroValue3
  t4 := Tryz.underlying4
  a4 := Tryz.isAgg4
  z4 := Tryz.sizeOf4
  v4 := Tryz.zeroValue4
  t5 := Tryz.underlying5
  a5 := Tryz.isAgg5
  z5 := Tryz.sizeOf5
  v5 := Tryz.zeroValue5
  t9 := Tryz.underlying9
  a9 := Tryz.isAgg9
  z9 := Tryz.sizeOf9
  v9 := Tryz.zeroValue9
  t20 := Tryz.underlying20
  a20 := Tryz.isAgg20
  z20 := Tryz.sizeOf20
  v20 := Tryz.zeroValue20
  t21 := Tryz.underlying21
  a21 := Tryz.isAgg21
  z21 := Tryz.sizeOf21
  v21 := Tryz.zeroValue21
  t37 := Tryz.underlying43
  a37 := Tryz.isAgg43
  z37 := Tryz.sizeOf43
  v37 := Tryz.zeroValue43
  t46 := Tryz.underlying147
  a46 := Tryz.isAgg147
  z46 := Tryz.sizeOf147
  v46 := Tryz.zeroValue147
  t51 := Tryz.underlying157
  a51 := Tryz.isAgg157
  z51 := Tryz.sizeOf157
  v51 := Tryz.zeroValue157
  t53 := Tryz.underlying134
  a53 := Tryz.isAgg134
  z53 := Tryz.sizeOf134
  v53 := Tryz.zeroValue134
  t75 := Tryz.underlying106
  a75 := Tryz.isAgg106
  z75 := Tryz.sizeOf106
  v75 := Tryz.zeroValue106
  t76 := Tryz.underlying107
  a76 := Tryz.isAgg107
  z76 := Tryz.sizeOf107
  v76 := Tryz.zeroValue107
  t85 := Tryz.underlying140
  a85 := Tryz.isAgg140
  z85 := Tryz.sizeOf140
  v85 := Tryz.zeroValue140
  t127 := Tryz.underlying169
  a127 := Tryz.isAgg169
  z127 := Tryz.sizeOf169
  v127 := Tryz.zeroValue169
  t143 := Tryz.underlying172
  a143 := Tryz.isAgg172
  z143 := Tryz.sizeOf172
  v143 := Tryz.zeroValue172
  t145 := Tryz.underlying174
  a145 := Tryz.isAgg174
  z145 := Tryz.sizeOf174
  v145 := Tryz.zeroValue174
  t167 := Tryz.underlying139
  a167 := Tryz.isAgg139
  z167 := Tryz.sizeOf139
  v167 := Tryz.zeroValue139
  t168 := Tryz.underlying142
  a168 := Tryz.isAgg142
  z168 := Tryz.sizeOf142
  v168 := Tryz.zeroValue142
  t171 := Tryz.underlying133
  a171 := Tryz.isAgg133
  z171 := Tryz.sizeOf133
  v171 := Tryz.zeroValue133
  t173 := Tryz.underlying137
  a173 := Tryz.isAgg137
  z173 := Tryz.sizeOf137
  v173 := Tryz.zeroValue137
  t175 := Tryz.underlying160
  a175 := Tryz.isAgg160
  z175 := Tryz.sizeOf160
  v175 := Tryz.zeroValue160
  t210 := Tryz.underlying163
  a210 := Tryz.isAgg163
  z210 := Tryz.sizeOf163
  v210 := Tryz.zeroValue163
  t212 := Tryz.underlying156
  a212 := Tryz.isAgg156
  z212 := Tryz.sizeOf156
  v212 := Tryz.zeroValue156
  t213 := Tryz.underlying158
  a213 := Tryz.isAgg158
  z213 := Tryz.sizeOf158
  t232 := Tryz.underlying178
  a232 := Tryz.isAgg178
  z232 := Tryz.sizeOf178
  v232 := Tryz.zeroValue178
  t233 := Tryz.underlying179
  a233 := Tryz.isAgg179
  z233 := Tryz.sizeOf179
  v233 := Tryz.zeroValue179
  g15 := by kernel_rfl
  g16 := by kernel_rfl
  g17 := by kernel_rfl
  g18 := by kernel_rfl
  g19 := by kernel_rfl
  t80 := Tryz.underlying109
  a80 := Tryz.isAgg109
  z80 := Tryz.sizeOf109
  v80 := Tryz.zeroValue109
  i0 := by kernel_rfl
  i2 := by kernel_rfl
  i3 := by kernel_rfl
  i4 := by kernel_rfl
  i5 := by kernel_rfl
  i9 := by kernel_rfl
  i20 := by kernel_rfl
  i21 := by kernel_rfl
  i37 := by kernel_rfl
  i46 := by kernel_rfl
  i51 := by kernel_rfl
  i53 := by kernel_rfl
  i75 := by kernel_rfl
  i76 := by kernel_rfl
  i80 := by kernel_rfl
  i85 := by kernel_rfl
  i127 := by kernel_rfl
  i143 := by kernel_rfl
  i145 := by kernel_rfl
  i167 := by kernel_rfl
  i168 := by kernel_rfl
  i171 := by kernel_rfl
  i173 := by kernel_rfl
  i175 := by kernel_rfl
  i210 := by kernel_rfl
  i212 := by kernel_rfl
  i232 := by kernel_rfl
  i233 := by kernel_rfl
  m15 := by kernel_rfl
  m16 := by kernel_rfl
  m17 := by kernel_rfl
  m18 := by kernel_rfl
  m19 := by kernel_rfl
  c0 := by kernel_rfl
  c2 := by kernel_rfl
  c3 := by kernel_rfl
  c4 := by kernel_rfl
  c5 := by kernel_rfl
  c9 := by kernel_rfl
  c20 := by kernel_rfl
  c21 := by kernel_rfl
  c37 := by kernel_rfl
  c46 := by kernel_rfl
  c51 := by kernel_rfl
  c53 := by kernel_rfl
  c75 := by kernel_rfl
  c76 := by kernel_rfl
  c80 := by kernel_rfl
  c85 := by kernel_rfl
  c127 := by kernel_rfl
  c143 := by kernel_rfl
  c145 := by kernel_rfl
  c167 := by kernel_rfl
  c168 := by kernel_rfl
  c171 := by kernel_rfl
  c173 := by kernel_rfl
  c175 := by kernel_rfl
  c210 := by kernel_rfl
  c212 := by kernel_rfl
  c213 := by kernel_rfl
  c232 := by kernel_rfl
  c233 := by kernel_rfl }
open Go.RowKit in
theorem Tryz.strconv_Atoi_ok (s : ByteArray) (hmax : s.size ≤ 9223372036854775806) (v : Int) (h : Lib.atoiAll s.data.toList = .ok v) (w : World) :
    Calls Tryz.prog 88 #[.string s] w fun e w' => e = .returned (.tuple #[.int .i64 v, .nilIface]) ∧ (w' = w ∨ ∃ t, w' = Lib.bytesWorld w 5 t) := Any.strconv_Atoi_ok Tryz.laysC172 s hmax v h w
open Go.RowKit in
theorem Tryz.strconv_Atoi_syntax (s : ByteArray) (hlim : s.size ≤ 281474976710656) (h : Lib.atoiAll s.data.toList = Lib.atoiAll []) (ev : Value) (w : World) (hv : w.cell? ⟨1, 0, none⟩ = some ev) (hev : ev = .nilIface ∨ ∃ te pe, ev = .iface te pe) :
    Calls Tryz.prog 88 #[.string s] w fun e w' => ∃ N, e = .returned (.tuple #[.int .i64 (0), .iface 142 (.pointer (some ⟨N, 0, none⟩))]) ∧ w.heap.size ≤ N ∧ w'.heap[N]? = some (.cells #[.string ⟨#[65, 116, 111, 105]⟩, .string s, ev] 163 (0, 0)) ∧ Below w.heap.size w w' := Any.strconv_Atoi_syntax Tryz.laysC172 s hlim h ev w hv hev
open Go.RowKit in
theorem Tryz.strconv_Atoi_range (s : ByteArray) (hlim : s.size ≤ 281474976710656) (h : Lib.atoiAll s.data.toList = .range) (ev : Value) (w : World) (hv : w.cell? ⟨2, 0, none⟩ = some ev) (hev : ev = .nilIface ∨ ∃ te pe, ev = .iface te pe) :
    Calls Tryz.prog 88 #[.string s] w fun e w' => ∃ N, e = .returned (.tuple #[.int .i64 (Lib.atoiSat s.data.toList), .iface 142 (.pointer (some ⟨N, 0, none⟩))]) ∧ w.heap.size ≤ N ∧ w'.heap[N]? = some (.cells #[.string ⟨#[65, 116, 111, 105]⟩, .string s, ev] 163 (0, 0)) ∧ Below w.heap.size w w' := Any.strconv_Atoi_range Tryz.laysC172 s hlim h ev w hv hev
def Tryz.lays105_ren : Go.Shelf.Ren := ⟨fun | 105 => 114 | 212 => 127 | 99 => 128 | 165 => 129 | 166 => 130 | 170 => 131 | 169 => 132 | 263 => 142 | 264 => 143 | 206 => 144 | 240 => 145 | 241 => 146 | 276 => 152 | 277 => 153 | n => n, fun | 9 => 9 | 3 => 3 | 4 => 4 | 20 => 20 | 0 => 0 | 46 => 147 | 109 => 148 | 5 => 5 | 72 => 153 | 76 => 107 | 51 => 157 | 146 => 165 | 53 => 134 | 148 => 167 | 70 => 151 | 37 => 43 | 75 => 106 | 127 => 169 | 164 => 175 | 80 => 109 | n => n, fun | n => n⟩
theorem Tryz.lays105 : Go.Proofs.Lays.n105 Tryz.prog Tryz.lays105_ren := {
  mixed := by kernel_rfl
  f99 := Tryz.func128.trans (congrArg some (by kernel_rfl))
  f105 := Tryz.func114.trans (congrArg some (by kernel_rfl))
  f165 := Tryz.func129.trans (congrArg some (by kernel_rfl))
  f166 := Tryz.func130.trans (congrArg some (by kernel_rfl))
  f169 := Tryz.func132.trans (congrArg some (by kernel_rfl))
  f170 := Tryz.func131.trans (congrArg some (by kernel_rfl))
  f206 := Tryz.func144.trans (congrArg some (by kernel_rfl))
  f212 := Tryz.func127.trans (congrArg some (by kernel_rfl))
  f240 := Tryz.func145.trans (congrArg some (by kernel_rfl))
  f241 := Tryz.func146.trans (congrArg some (by kernel_rfl))
  f263 := Tryz.func142.trans (congrArg some (by kernel_rfl))
  f264 := Tryz.func143.trans (congrArg some (by kernel_rfl))
  f276 := Tryz.func152.trans (congrArg some (by kernel_rfl))
  f277 := Tryz.func153.trans (congrArg some (by kernel_rfl))
  t0 := Tryz.underlying0
  a0 := Tryz.isAgg0
  z0 := Tryz.sizeOf0
  v0 := Tryz.zeroValue0
  t3 := Tryz.underlying3
  a3 := Tryz.isAgg3
  z3 := Tryz.sizeOf3
  v3 := Tryz.zeroValue3
  t4 := Tryz.underlying4
  a4 := Tryz.isAgg4
  z4 := Tryz.sizeOf4
  v4 := Tryz.zeroValue4
  t5 := Tryz.underlying5
  a5 := Tryz.isAgg5
  z5 := Tryz.sizeOf5
  v5 := Tryz.zeroValue5
  t9 := Tryz.underlying9
  a9 := Tryz.isAgg9
  z9 := Tryz.sizeOf9
  v9 := Tryz.zeroValue9
  t20 := Tryz.underlying20
  a20 := Tryz.isAgg20
  z20 := Tryz.sizeOf20
  v20 := Tryz.zeroValue20
  t37 := Tryz.underlying43
  a37 := Tryz.isAgg43
  z37 := Tryz.sizeOf43
  v37 := Tryz.zeroValue43
  t46 := Tryz.underlying147
  a46 := Tryz.isAgg147
  z46 := Tryz.sizeOf147
  v46 := Tryz.zeroValue147
  t51 := Tryz.underlying157
  a51 := Tryz.isAgg157
  z51 := Tryz.sizeOf157
  v51 := Tryz.zeroValue157
  t53 := Tryz.underlying134
  a53 := Tryz.isAgg134
  z53 := Tryz.sizeOf134
  v53 := Tryz.zeroValue134
  t70 := Tryz.underlying151
  a70 := Tryz.isAgg151
  z70 := Tryz.sizeOf151
  v70 := Tryz.zeroValue151
  t72 := Tryz.underlying153
  a72 := Tryz.isAgg153
  z72 := Tryz.sizeOf153
  v72 := Tryz.zeroValue153
  t75 := Tryz.underlying106
  a75 := Tryz.isAgg106
  z75 := Tryz.sizeOf106
  v75 := Tryz.zeroValue106
  t76 := Tryz.underlying107
  a76 := Tryz.isAgg107
  z76 := Tryz.sizeOf107
  v76 := Tryz.zeroValue107
  t109 := Tryz.underlying148
  a109 := Tryz.isAgg148
  z109 := Tryz.sizeOf148
  v109 := Tryz.zeroValue148
  t127 := Tryz.underlying169
  a127 := Tryz.isAgg169
  z127 := Tryz.sizeOf169
  v127 := Tryz.zeroValue169
  t146 := Tryz.underlying165
  a146 := Tryz.isAgg165
  z146 := Tryz.sizeOf165
  v146 := Tryz.zeroValue165
  t148 := Tryz.underlying167
  a148 := Tryz.isAgg167
  z148 := Tryz.sizeOf167
  v148 := Tryz.zeroValue167
  t164 := Tryz.underlying175
  a164 := Tryz.isAgg175
  z164 := Tryz.sizeOf175
  v164 := Tryz.zeroValue175 }
theorem Tryz.Builder_Extra_105 : Builder.Extra Tryz.prog Tryz.lays105_ren := {
  sizeBuilder := by kernel_rfl
  liesBuilder := by kernel_rfl
  t5 := Tryz.underlying5
  a5 := Tryz.isAgg5
  z5 := Tryz.sizeOf5
  v5 := Tryz.zeroValue5
  infoByte := by kernel_rfl
  cellsByte := by kernel_rfl
  sizeByte := by kernel_rfl
  neB5 := by decide }
open Go.RowKit Go.Lib in
theorem Tryz.strings_Repeat (s : ByteArray) (c : Nat) (w : World) (hc : c ≤ 9223372036854775807) (hlen : s.size * c ≤ 140737488355328) :
    Calls Tryz.prog 114 #[.string s, .int .i64 c] w fun e w' => e = .returned (.string ⟨(Lib.repeatL s.data.toList c).toArray⟩) ∧ Below w.heap.size w w' := Any.strings_Repeat Tryz.lays105 Tryz.Builder_Extra_105 s c w hc hlen
end Go.Proofs

namespace Go.Proofs.YtnleljpebnnhfaaGreatDoor
open Go.RowKit

/-- A node as data. -/
structure Nd where
  kind : Int
  num : Int
  label : ByteArray
  args : List Int
  deriving DecidableEq, Inhabited

/-- The world only grew. -/
abbrev Ext (w w' : World) : Prop := Below w.heap.size w w'

theorem Ext.rfl' (w : World) : Ext w w := Below.refl _ _
theorem Ext.trans' {a b c : World} (h : Ext a b) (k : Ext b c) : Ext a c := Below.trans h (k.mono h.size)
theorem Ext.drewN {a b : World} (h : Ext a b) (n : Nat) : Ext a (b.drewN n) := ⟨h.os, h.tape, h.output, h.size, h.block⟩
theorem Ext.drew {a b : World} (h : Ext a b) : Ext a b.drew := ⟨h.os, h.tape, h.output, h.size, h.block⟩
theorem Ext.alloc {a b : World} (h : Ext a b) (o : Obj) : Ext a (b.alloc o) := Below.alloc h h.size o
theorem Ext.of_drewN (a : World) (n : Nat) : Ext a (a.drewN n) := (Ext.rfl' a).drewN n
theorem Ext.cell {w w' : World} (h : Ext w w') {a : Addr} {v : Value} (hc : w.cell? a = some v) : w'.cell? a = some v :=
  (Below.cell h (World.block_lt_of_cell? w a hc)).trans hc
theorem Ext.heap {w w' : World} (h : Ext w w') {b : Nat} {o : Obj} (hc : w.heap[b]? = some o) : w'.heap[b]? = some o :=
  (h.block b (Array.getElem?_eq_some_iff.1 hc).1).trans hc

/-- A row of one-cell elements at an address. -/
def Rd {α : Type} (enc : α → Value) (w : World) (A : Option Addr) (xs : List α) : Prop :=
  xs.length ≤ 140737488355328 ∧ (0 < xs.length → ∃ b o, A = some ⟨b, o, none⟩ ∧ ∀ j (h : j < xs.length), w.cell? ⟨b, o + j, none⟩ = some (enc xs[j]))

abbrev iv : Int → Value := Value.int .i64

theorem Rd.ext {α : Type} {enc : α → Value} {w w' : World} {A : Option Addr} {xs : List α} (h : Rd enc w A xs) (he : Ext w w') : Rd enc w' A xs :=
  ⟨h.1, fun hp => by
    obtain ⟨b, o, e, hc⟩ := h.2 hp
    exact ⟨b, o, e, fun j hj => he.cell (hc j hj)⟩⟩
theorem Rd.nil {α : Type} (enc : α → Value) (w : World) (A : Option Addr) : Rd enc w A [] := ⟨by simp, fun h => absurd h (by simp)⟩
theorem Rd.le {α : Type} {enc : α → Value} {w : World} {A : Option Addr} {xs : List α} (h : Rd enc w A xs) : xs.length ≤ 140737488355328 := h.1

/-- A slice value that reads as xs. -/
def Sl {α : Type} (enc : α → Value) (w : World) (v : Value) (xs : List α) : Prop :=
  ∃ A c, v = .slice A xs.length c ∧ xs.length ≤ c ∧ Rd enc w A xs
theorem Sl.ext {α : Type} {enc : α → Value} {w w' : World} {v : Value} {xs : List α} (h : Sl enc w v xs) (he : Ext w w') : Sl enc w' v xs := by
  obtain ⟨A, c, e, hc, hr⟩ := h
  exact ⟨A, c, e, hc, hr.ext he⟩
theorem Sl.nil {α : Type} (enc : α → Value) (w : World) : Sl enc w (.slice none 0 0) [] := ⟨none, 0, rfl, Nat.le_refl _, Rd.nil _ _ _⟩

/-- A node value. -/
def NdV (w : World) (v : Value) (n : Nd) : Prop :=
  ∃ A c, v = .agg #[.int .i64 n.kind, .int .i64 n.num, .string n.label, .slice A n.args.length c] ∧ n.args.length ≤ c ∧ Rd iv w A n.args
/-- A node in memory. -/
def NdAt (w : World) (b o : Nat) (n : Nd) : Prop :=
  ∃ A c, w.cell? ⟨b, o, none⟩ = some (.int .i64 n.kind) ∧ w.cell? ⟨b, o + 1, none⟩ = some (.int .i64 n.num) ∧ w.cell? ⟨b, o + 2, none⟩ = some (.string n.label) ∧
    w.cell? ⟨b, o + 3, none⟩ = some (.slice A n.args.length c) ∧ n.args.length ≤ c ∧ Rd iv w A n.args
theorem NdAt.ext {w w' : World} {b o : Nat} {n : Nd} (h : NdAt w b o n) (he : Ext w w') : NdAt w' b o n := by
  obtain ⟨A, c, h0, h1, h2, h3, h4, h5⟩ := h
  exact ⟨A, c, he.cell h0, he.cell h1, he.cell h2, he.cell h3, h4, h5.ext he⟩
/-- A row of nodes at an address. -/
def NdsRd (w : World) (A : Option Addr) (ns : List Nd) : Prop :=
  ns.length ≤ 140737488355328 ∧ (0 < ns.length → ∃ b o, A = some ⟨b, o, none⟩ ∧ ∀ j (h : j < ns.length), NdAt w b (o + j * 4) ns[j])
theorem NdsRd.ext {w w' : World} {A : Option Addr} {ns : List Nd} (h : NdsRd w A ns) (he : Ext w w') : NdsRd w' A ns :=
  ⟨h.1, fun hp => by
    obtain ⟨b, o, e, hc⟩ := h.2 hp
    exact ⟨b, o, e, fun j hj => (hc j hj).ext he⟩⟩
theorem NdsRd.nil (w : World) (A : Option Addr) : NdsRd w A [] := ⟨by simp, fun h => absurd h (by simp)⟩
/-- A slice value of nodes. -/
def Nds (w : World) (v : Value) (ns : List Nd) : Prop := ∃ A c, v = .slice A ns.length c ∧ ns.length ≤ c ∧ NdsRd w A ns
theorem Nds.ext {w w' : World} {v : Value} {ns : List Nd} (h : Nds w v ns) (he : Ext w w') : Nds w' v ns := by
  obtain ⟨A, c, e, hc, hr⟩ := h
  exact ⟨A, c, e, hc, hr.ext he⟩
theorem Nds.nil (w : World) : Nds w (.slice none 0 0) [] := ⟨none, 0, rfl, Nat.le_refl _, NdsRd.nil _ _⟩

end Go.Proofs.YtnleljpebnnhfaaGreatDoor

namespace Go.Proofs.YtnleljpebnnhfaaGreatDoor
open Go.RowKit
theorem retB {a b : Bool} (h : a = b) : Ending.returned (.bool a) = .returned (.bool b) := by rw [h]
theorem retI {k : IntKind} {a b : Int} (h : a = b) : Ending.returned (.int k a) = .returned (.int k b) := by rw [h]
def isLetterN (n : Nat) : Bool := (97 ≤ n && n ≤ 122) || (65 ≤ n && n ≤ 90) || (48 ≤ n && n ≤ 57) || n == 95
def bt (s : ByteArray) (i : Nat) : Nat := if h : i < s.size then (s[i]'h).toNat else 0
theorem bt_eq (s : ByteArray) (i : Nat) (h : i < s.size) : (s[i]'h).toNat = bt s i := by simp [bt, h]
/-- All bytes are letters. -/
def allLetters (s : ByteArray) : Bool := (List.range s.size).all fun j => isLetterN (bt s j)
theorem allLetters_iff (s : ByteArray) : allLetters s = true ↔ ∀ j, j < s.size → isLetterN (bt s j) = true := by simp [allLetters]
def wordB (s : ByteArray) (first last : Nat) : Bool := decide (1 ≤ s.size) && decide (s.size ≤ 16) && decide (first ≤ bt s 0) && decide (bt s 0 ≤ last) && allLetters s
theorem wordB_iff (s : ByteArray) (first last : Nat) : wordB s first last = true ↔ 1 ≤ s.size ∧ s.size ≤ 16 ∧ first ≤ bt s 0 ∧ bt s 0 ≤ last ∧ allLetters s = true := by
  simp [wordB, and_assoc]
set_option maxHeartbeats 400000 in
theorem letter_any (c : Nat) (w : World) :
    Calls Tryz.prog 111 #[.int .u8 c] w fun e w' => e = .returned (.bool (isLetterN c)) ∧ w = w' := by
  go_enter Tryz.func111, Tryz.ntmps111
  go_wp2
  all_goals go_ret
  all_goals refine ⟨retB ?_, rfl⟩
  all_goals (rw [Bool.eq_iff_iff]; simp [isLetterN]; try omega)
theorem word_no (s : ByteArray) (first last : Nat) (w : World) (h : s.size < 1 ∨ 16 < s.size ∨ bt s 0 < first ∨ last < bt s 0) :
    Calls Tryz.prog 104 #[.string s, .int .u8 first, .int .u8 last] w fun e w' => e = .returned (.bool false) ∧ w = w' := by
  by_cases h1 : s.size < 1
  · go_enter Tryz.func104, Tryz.ntmps104
    go_wp2
    all_goals go_ret
    all_goals exact ⟨rfl, rfl⟩
  · have h1' : 0 < s.size := by omega
    by_cases h2 : 16 < s.size
    · go_enter Tryz.func104, Tryz.ntmps104
      go_wp2
      all_goals go_ret
      all_goals exact ⟨rfl, rfl⟩
    · have hb := bt_eq s 0 h1'
      by_cases h3 : bt s 0 < first
      · have h3' : (s[0]'h1').toNat < first := by omega
        clear hb h
        go_enter Tryz.func104, Tryz.ntmps104
        go_wp2
        all_goals go_ret
        all_goals exact ⟨rfl, rfl⟩
      · have h3' : ¬ (s[0]'h1').toNat < first := by omega
        have h4' : last < (s[0]'h1').toNat := by omega
        clear hb h
        go_enter Tryz.func104, Tryz.ntmps104
        go_wp2
        all_goals go_ret
        all_goals exact ⟨rfl, rfl⟩
theorem word_yes (s : ByteArray) (first last : Nat) (w : World) (h1 : 1 ≤ s.size) (h2 : s.size ≤ 16) (h3 : first ≤ bt s 0) (h4 : bt s 0 ≤ last) :
    Calls Tryz.prog 104 #[.string s, .int .u8 first, .int .u8 last] w fun e w' => e = .returned (.bool (allLetters s)) ∧ w = w' := by
  have hb := bt_eq s 0 h1
  have h1' : 0 < s.size := by omega
  have h3' : ¬ (s[0]'h1').toNat < first := by omega
  have h4' : ¬ last < (s[0]'h1').toNat := by omega
  clear hb
  go_enter Tryz.func104, Tryz.ntmps104
  go_wp2
  go_loop [30] (fun i => ∃ k : Nat, k ≤ s.size ∧ i = .int .i64 k ∧ ∀ j, j < k → isLetterN (bt s j) = true) (fun i => s.size - (intOf i).toNat)
  case atStart => exact ⟨0, by omega, rfl, fun j hj => by omega⟩
  case round =>
    obtain ⟨k, hk, rfl, hall⟩ := hrel
    have HA := Lib.hid hall; clear hall
    by_cases hlt : k < s.size
    · have he := bt_eq s k hlt
      cases hf : isLetterN (bt s k) with
      | false =>
        have hf' : isLetterN (s[k]'hlt).toNat = false := by rw [he]; exact hf
        have HF := Lib.hid hf; clear hf he
        go_wp2_with (go_at_call 111; refine (letter_any _ _).mono ?_; rintro e w' ⟨rfl, rfl⟩)
        go_ret
        refine ⟨retB ?_, rfl⟩
        cases ha : allLetters s with
        | false => rfl
        | true => have := HF.out; rw [(allLetters_iff s).1 ha k hlt] at this; cases this
      | true =>
        have hf' : isLetterN (s[k]'hlt).toNat = true := by rw [he]; exact hf
        have HF := Lib.hid hf; clear hf he
        go_wp2_with (go_at_call 111; refine (letter_any _ _).mono ?_; rintro e w' ⟨rfl, rfl⟩)
        refine ⟨⟨k + 1, by omega, by go_num, fun j hj => ?_⟩, by simp [intOf]; omega⟩
        rcases Nat.lt_or_ge j k with h | h
        · exact HA.out j h
        · obtain rfl : j = k := by omega
          exact HF.out
    · go_wp2
      go_ret
      exact ⟨retB ((allLetters_iff s).2 fun j hj => HA.out j (by omega)).symm, rfl⟩
theorem word_any (s : ByteArray) (first last : Nat) (w : World) :
    Calls Tryz.prog 104 #[.string s, .int .u8 first, .int .u8 last] w fun e w' => e = .returned (.bool (wordB s first last)) ∧ w = w' := by
  by_cases h : 1 ≤ s.size ∧ s.size ≤ 16 ∧ first ≤ bt s 0 ∧ bt s 0 ≤ last
  · obtain ⟨h1, h2, h3, h4⟩ := h
    refine (word_yes s first last w h1 h2 h3 h4).mono fun e w' ⟨he, hw⟩ => ⟨he.trans (retB ?_), hw⟩
    simp [wordB, h1, h2, h3, h4]
  · refine (word_no s first last w (by omega)).mono fun e w' ⟨he, hw⟩ => ⟨he.trans (retB ?_), hw⟩
    cases hb : wordB s first last with
    | false => rfl
    | true =>
      have := (wordB_iff s first last).1 hb
      exact absurd ⟨this.1, this.2.1, this.2.2.1, this.2.2.2.1⟩ h
/-- The string is '|' or '#'. -/
def barB (s : ByteArray) : Bool := s.toList == [124]
def hashB (s : ByteArray) : Bool := s.toList == [35]
def atomB (s : ByteArray) : Bool := barB s || hashB s || wordB s 97 122
set_option maxHeartbeats 400000 in
theorem atom_any (s : ByteArray) (w : World) :
    Calls Tryz.prog 80 #[.string s] w fun e w' => e = .returned (.bool (atomB s)) ∧ w = w' := by
  go_enter Tryz.func80, Tryz.ntmps80
  go_wp2_with (go_at_call 104; refine (word_any s 97 122 _).mono ?_; rintro e w' ⟨rfl, rfl⟩)
  all_goals go_ret
  all_goals (refine ⟨retB ?_, rfl⟩; simp_all [atomB, barB, hashB])
end Go.Proofs.YtnleljpebnnhfaaGreatDoor

namespace Go.Proofs.YtnleljpebnnhfaaGreatDoor
open Go.RowKit
abbrev Ent (g : Nat) : Prop := ∀ (args : Array Value) (w : World), (callFunc g args).run Tryz.prog w = .ok (.enter g args) w
set_option maxHeartbeats 400000 in
theorem indexFunc_int (g : Nat) (caps : Array Value) (eg : Ent g) (A : Option Addr) (c : Nat) (xs : List Int) (w : World) (I D : Nat → World → Prop)
    (hI0 : I 0 w) (hR : ∀ k W, I k W → Rd iv W A xs)
    (hcall : ∀ k (hk : k < xs.length) W, I k W → Calls Tryz.prog g (#[.int .i64 xs[k]] ++ caps) W fun e W' => (e = .returned (.bool true) ∧ D k W') ∨ (e = .returned (.bool false) ∧ I (k + 1) W')) :
    Calls Tryz.prog 100 #[.slice A xs.length c, .func (.func g) #[] caps] w fun e w' =>
      (∃ k : Nat, k < xs.length ∧ e = .returned (.int .i64 k) ∧ D k w') ∨ (e = .returned (.int .i64 (-1)) ∧ I xs.length w') := by
  have hle := (hR 0 w hI0).1
  have HI := Lib.hid hI0; clear hI0
  have HR := Lib.hid hR; clear hR
  have HC := Lib.hid hcall; clear hcall
  go_enter Tryz.func100, Tryz.ntmps100
  go_wp2
  go_loopw [8] (fun i wr => ∃ k : Nat, k ≤ xs.length ∧ i = .int .i64 k ∧ I k wr) (fun i _ => xs.length - (intOf i).toNat)
  case atStart => exact ⟨0, by omega, rfl, HI.out⟩
  case round =>
    obtain ⟨k, hk, rfl, hi⟩ := hrel
    have Hi := Lib.hid hi; clear hi
    by_cases hlt : k < xs.length
    · obtain ⟨b, o, rfl, hc⟩ := (HR.out k wr Hi.out).2 (by omega)
      have hcell := hc k hlt
      clear hc
      go_wp2_with fail
      refine (HC.out k hlt _ Hi.out).mono ?_
      rintro e w1 (⟨rfl, hd⟩ | ⟨rfl, hi1⟩)
      · have Hd := Lib.hid hd; clear hd
        go_wp2
        go_ret
        exact .inl ⟨k, hlt, rfl, Hd.out⟩
      · have Hi1 := Lib.hid hi1; clear hi1
        go_wp2
        exact ⟨⟨k + 1, by omega, by go_num, Hi1.out⟩, by simp [intOf]; omega⟩
    · obtain rfl : k = xs.length := by omega
      go_wp2
      go_ret
      exact .inr ⟨rfl, Hi.out⟩
theorem containsFunc_int (g : Nat) (caps : Array Value) (eg : Ent g) (A : Option Addr) (c : Nat) (xs : List Int) (w : World) (I D : Nat → World → Prop)
    (hI0 : I 0 w) (hR : ∀ k W, I k W → Rd iv W A xs)
    (hcall : ∀ k (hk : k < xs.length) W, I k W → Calls Tryz.prog g (#[.int .i64 xs[k]] ++ caps) W fun e W' => (e = .returned (.bool true) ∧ D k W') ∨ (e = .returned (.bool false) ∧ I (k + 1) W')) :
    Calls Tryz.prog 72 #[.slice A xs.length c, .func (.func g) #[] caps] w fun e w' =>
      (∃ k : Nat, k < xs.length ∧ e = .returned (.bool true) ∧ D k w') ∨ (e = .returned (.bool false) ∧ I xs.length w') := by
  have H := Lib.hid (indexFunc_int g caps eg A c xs w I D hI0 hR hcall)
  clear hI0 hR hcall
  go_enter Tryz.func72, Tryz.ntmps72
  go_wp2_with fail
  refine H.out.mono ?_
  rintro e w1 (⟨k, hk, rfl, hd⟩ | ⟨rfl, hi⟩)
  · have Hd := Lib.hid hd; clear hd H
    go_wp2
    go_ret
    exact .inl ⟨k, hk, rfl, Hd.out⟩
  · have Hi := Lib.hid hi; clear hi H
    go_wp2
    go_ret
    exact .inr ⟨rfl, Hi.out⟩
set_option maxHeartbeats 400000 in
theorem indexFunc_nd (g : Nat) (caps : Array Value) (eg : Ent g) (A : Option Addr) (c : Nat) (xs : List Nd) (w : World) (I D : Nat → World → Prop)
    (hI0 : I 0 w) (hR : ∀ k W, I k W → NdsRd W A xs)
    (hcall : ∀ k (hk : k < xs.length) W v, I k W → NdV W v xs[k] → Calls Tryz.prog g (#[v] ++ caps) W fun e W' => (e = .returned (.bool true) ∧ D k W') ∨ (e = .returned (.bool false) ∧ I (k + 1) W')) :
    Calls Tryz.prog 79 #[.slice A xs.length c, .func (.func g) #[] caps] w fun e w' =>
      (∃ k : Nat, k < xs.length ∧ e = .returned (.int .i64 k) ∧ D k w') ∨ (e = .returned (.int .i64 (-1)) ∧ I xs.length w') := by
  have hle := (hR 0 w hI0).1
  have HI := Lib.hid hI0; clear hI0
  have HR := Lib.hid hR; clear hR
  have HC := Lib.hid hcall; clear hcall
  go_enter Tryz.func79, Tryz.ntmps79
  go_wp2
  go_loopw [8] (fun i wr => ∃ k : Nat, k ≤ xs.length ∧ i = .int .i64 k ∧ I k wr) (fun i _ => xs.length - (intOf i).toNat)
  case atStart => exact ⟨0, by omega, rfl, HI.out⟩
  case round =>
    obtain ⟨k, hk, rfl, hi⟩ := hrel
    have Hi := Lib.hid hi; clear hi
    by_cases hlt : k < xs.length
    · obtain ⟨b, o, rfl, hc⟩ := (HR.out k wr Hi.out).2 (by omega)
      obtain ⟨A1, c1, h0, h1, h2, h3, h4, h5⟩ := hc k hlt
      have H5 := Lib.hid h5
      clear hc h5
      go_wp2_with fail
      refine (HC.out k hlt _ _ Hi.out ⟨A1, c1, rfl, h4, H5.out⟩).mono ?_
      rintro e w1 (⟨rfl, hd⟩ | ⟨rfl, hi1⟩)
      · have Hd := Lib.hid hd; clear hd
        go_wp2
        go_ret
        exact .inl ⟨k, hlt, rfl, Hd.out⟩
      · have Hi1 := Lib.hid hi1; clear hi1
        go_wp2
        exact ⟨⟨k + 1, by omega, by go_num, Hi1.out⟩, by simp [intOf]; omega⟩
    · obtain rfl : k = xs.length := by omega
      go_wp2
      go_ret
      exact .inr ⟨rfl, Hi.out⟩
theorem containsFunc_nd (g : Nat) (caps : Array Value) (eg : Ent g) (A : Option Addr) (c : Nat) (xs : List Nd) (w : World) (I D : Nat → World → Prop)
    (hI0 : I 0 w) (hR : ∀ k W, I k W → NdsRd W A xs)
    (hcall : ∀ k (hk : k < xs.length) W v, I k W → NdV W v xs[k] → Calls Tryz.prog g (#[v] ++ caps) W fun e W' => (e = .returned (.bool true) ∧ D k W') ∨ (e = .returned (.bool false) ∧ I (k + 1) W')) :
    Calls Tryz.prog 52 #[.slice A xs.length c, .func (.func g) #[] caps] w fun e w' =>
      (∃ k : Nat, k < xs.length ∧ e = .returned (.bool true) ∧ D k w') ∨ (e = .returned (.bool false) ∧ I xs.length w') := by
  have H := Lib.hid (indexFunc_nd g caps eg A c xs w I D hI0 hR hcall)
  clear hI0 hR hcall
  go_enter Tryz.func52, Tryz.ntmps52
  go_wp2_with fail
  refine H.out.mono ?_
  rintro e w1 (⟨k, hk, rfl, hd⟩ | ⟨rfl, hi⟩)
  · have Hd := Lib.hid hd; clear hd H
    go_wp2
    go_ret
    exact .inl ⟨k, hk, rfl, Hd.out⟩
  · have Hi := Lib.hid hi; clear hi H
    go_wp2
    go_ret
    exact .inr ⟨rfl, Hi.out⟩
end Go.Proofs.YtnleljpebnnhfaaGreatDoor

set_option linter.unusedSimpArgs false
set_option linter.unusedVariables false
namespace Go.Proofs.YtnleljpebnnhfaaGreatDoor
open Go.RowKit
theorem intLtGe (a b : Int) : a < b ∨ b ≤ a := by omega
theorem Ext.setNew {a b : World} (h : Ext a b) {p : Addr} (hp : a.heap.size ≤ p.block) (u : Value) : Ext a (b.setCell p u) := Below.setCell h hp u
def namesB (s : ByteArray) : Bool := s.toList == [112, 114, 111, 99] || s.toList == [99, 101, 108, 108] || s.toList == [112, 111, 114, 116]
def emptyB (s : ByteArray) : Bool := s.toList.isEmpty
def inB (size a : Int) : Bool := decide (0 ≤ a) && decide (a < size)
/-- A node is valid in a graph of some size. -/
def validNd (n : Nd) (size : Int) : Bool :=
  if n.kind = 0 then decide (0 ≤ n.num) && emptyB n.label && n.args.isEmpty
  else if n.kind = 1 then decide (-1099511627776 ≤ n.num) && decide (n.num ≤ 1099511627776) && emptyB n.label && n.args.isEmpty
  else if n.kind = 2 then decide (n.num = 0) && atomB n.label && n.args.isEmpty
  else if n.kind = 3 then decide (n.num = 0) && atomB n.label && decide (1 ≤ n.args.length) && decide (n.args.length ≤ 8) && n.args.all (inB size)
  else if n.kind = 4 then decide (0 ≤ n.num) && namesB n.label && n.args.isEmpty
  else false
set_option maxHeartbeats 400000 in
theorem names_any (s : ByteArray) (w : World) :
    Calls Tryz.prog 82 #[.string s] w fun e w' => e = .returned (.bool (namesB s)) ∧ w = w' := by
  go_enter Tryz.func82, Tryz.ntmps82
  go_wp2
  all_goals go_ret
  all_goals (refine ⟨retB ?_, rfl⟩; simp_all [namesB])
theorem node1_any (a size : Int) (p : Addr) (w : World) (hp : w.cell? p = some (.int .i64 size)) :
    Calls Tryz.prog 81 #[.int .i64 a, .pointer (some p)] w fun e w' => e = .returned (.bool (!inB size a)) ∧ w = w' := by
  by_cases h : a < 0
  · go_enter Tryz.func81, Tryz.ntmps81
    go_wp2
    all_goals go_ret
    all_goals (refine ⟨retB ?_, rfl⟩; simp [inB]; omega)
  · go_enter Tryz.func81, Tryz.ntmps81
    go_wp2
    all_goals go_ret
    all_goals (refine ⟨retB ?_, rfl⟩; rw [Bool.eq_iff_iff]; simp [inB]; omega)
theorem args_all (args : List Int) (size : Int) (A : Option Addr) (c : Nat) (p : Addr) (W : World) (hr : Rd iv W A args) (hp : W.cell? p = some (.int .i64 size)) :
    Calls Tryz.prog 72 #[.slice A args.length c, .func (.func 81) #[] #[.pointer (some p)]] W fun e w' => e = .returned (.bool (!args.all (inB size))) ∧ Ext W w' := by
  refine (containsFunc_int 81 _ (fun _ _ => by kernel_rfl) A c args W (fun k W' => Ext W W' ∧ ∀ j (h : j < args.length), j < k → inB size args[j] = true) (fun k W' => Ext W W' ∧ ∃ (h : k < args.length), inB size args[k] = false)
    ⟨Ext.rfl' _, fun _ _ h => absurd h (by omega)⟩ (fun k W' hi => hr.ext hi.1) ?_).mono ?_
  · intro k hk W' hi
    refine (node1_any args[k] size p W' (hi.1.cell hp)).mono ?_
    rintro e w1 ⟨rfl, rfl⟩
    cases hb : inB size args[k] with
    | false => exact .inl ⟨rfl, hi.1, hk, hb⟩
    | true =>
      refine .inr ⟨rfl, hi.1, fun j hj hjk => ?_⟩
      rcases Nat.lt_or_ge j k with h | h
      · exact hi.2 j hj h
      · obtain rfl : j = k := by omega
        exact hb
  · rintro e w1 (⟨k, hk, rfl, hd, hk', hb⟩ | ⟨rfl, hd, hall⟩)
    · refine ⟨retB ?_, hd⟩
      cases ha : args.all (inB size) with
      | false => rfl
      | true => rw [List.all_eq_true.1 ha _ (List.getElem_mem hk)] at hb; cases hb
    · refine ⟨retB ?_, hd⟩
      have : args.all (inB size) = true := List.all_eq_true.2 fun x hx => by
        obtain ⟨j, hj, rfl⟩ := List.mem_iff_getElem.1 hx
        exact hall j hj hj
      rw [this]; rfl
set_option maxHeartbeats 400000 in
theorem node_any (n : Nd) (size : Int) (A : Option Addr) (c : Nat) (w : World) (hl : n.args.length ≤ 140737488355328) (hr : Rd iv w A n.args) :
    Calls Tryz.prog 54 #[.agg #[.int .i64 n.kind, .int .i64 n.num, .string n.label, .slice A n.args.length c], .int .i64 size] w
      fun e w' => e = .returned (.bool (validNd n size)) ∧ Ext w w' := by
  obtain ⟨kind, num, label, args⟩ := n
  simp only at hr ⊢
  have HR := Lib.hid hr; clear hr
  by_cases h0 : kind = 0
  · subst h0
    go_enter Tryz.func54, Tryz.ntmps54
    go_wp2
    all_goals go_ret
    all_goals (refine ⟨retB ?_, ((Ext.rfl' _).alloc _).alloc _⟩)
    all_goals (rw [Bool.eq_iff_iff]; simp_all [validNd, emptyB, List.isEmpty_iff, List.length_eq_zero_iff]; try omega)
  by_cases h1 : kind = 1
  · subst h1
    go_enter Tryz.func54, Tryz.ntmps54
    go_wp2
    all_goals go_ret
    all_goals (refine ⟨retB ?_, ((Ext.rfl' _).alloc _).alloc _⟩)
    all_goals (rw [Bool.eq_iff_iff]; simp_all [validNd, emptyB, List.isEmpty_iff, List.length_eq_zero_iff]; try omega)
  by_cases h2 : kind = 2
  · subst h2
    go_enter Tryz.func54, Tryz.ntmps54
    go_wp2_with (go_at_call 80; refine (atom_any _ _).mono ?_; rintro e w' ⟨rfl, rfl⟩)
    all_goals go_ret
    all_goals (refine ⟨retB ?_, ((Ext.rfl' _).alloc _).alloc _⟩)
    all_goals (rw [Bool.eq_iff_iff]; simp_all [validNd, emptyB, List.isEmpty_iff, List.length_eq_zero_iff]; try omega)
  by_cases h4 : kind = 4
  · subst h4
    go_enter Tryz.func54, Tryz.ntmps54
    go_wp2_with (go_at_call 82; refine (names_any _ _).mono ?_; rintro e w' ⟨rfl, rfl⟩)
    all_goals go_ret
    all_goals (refine ⟨retB ?_, ((Ext.rfl' _).alloc _).alloc _⟩)
    all_goals (rw [Bool.eq_iff_iff]; simp_all [validNd, emptyB, List.isEmpty_iff, List.length_eq_zero_iff]; try omega)
  by_cases h3 : kind = 3
  · subst h3
    go_enter Tryz.func54, Tryz.ntmps54
    go_wp2_with (first | (go_at_call 80; refine (atom_any _ _).mono ?_; rintro e w' ⟨rfl, rfl⟩) | (go_at_call 72; refine (args_all args size A c ⟨w.heap.size + 1, 0, none⟩ _ (HR.out.ext (((Ext.rfl' _).alloc _).alloc _)) ?hp).mono ?_; rotate_left; rintro e w1 ⟨rfl, hw1⟩))
    case hp => simp
    all_goals go_ret
    all_goals first
      | (refine ⟨retB ?_, (((Ext.rfl' _).alloc _).alloc _).trans' hw1⟩; simp_all [validNd]; intro _; omega)
      | (refine ⟨retB ?_, ((Ext.rfl' _).alloc _).alloc _⟩; simp_all [validNd]; done)
      | (refine ⟨retB ?_, ((Ext.rfl' _).alloc _).alloc _⟩; rw [Bool.eq_iff_iff]; simp_all [validNd]; intros; omega)
  · go_enter Tryz.func54, Tryz.ntmps54
    go_wp2
    all_goals go_ret
    all_goals (refine ⟨retB ?_, ((Ext.rfl' _).alloc _).alloc _⟩; simp [validNd, h0, h1, h2, h3, h4])
/-- A tree is valid. -/
def validT (ns : List Nd) (root : Int) : Bool :=
  decide (1 ≤ ns.length) && decide (ns.length ≤ 8000) && decide (0 ≤ root) && decide (root < ns.length) && ns.all fun n => validNd n ns.length
theorem valid1_any (n : Nd) (A : Option Addr) (c m r : Nat) (b : Nat) (B : Option Addr) (w : World) (hl : n.args.length ≤ 140737488355328) (hr : Rd iv w A n.args)
    (hp : w.cell? ⟨b, 0, none⟩ = some (.slice B m r)) :
    Calls Tryz.prog 53 #[.agg #[.int .i64 n.kind, .int .i64 n.num, .string n.label, .slice A n.args.length c], .pointer (some ⟨b, 0, none⟩)] w
      fun e w' => e = .returned (.bool (!validNd n m)) ∧ Ext w w' := by
  have HR := Lib.hid hr; clear hr
  have hb : b < w.heap.size := World.block_lt_of_cell? w _ hp
  go_enter Tryz.func53, Tryz.ntmps53
  go_wp2_with (go_at_call 54; refine (node_any n m A c _ hl (HR.out.ext ((Ext.rfl' _).alloc _))).mono ?_; rintro e w1 ⟨rfl, hw1⟩)
  go_ret
  exact ⟨rfl, ((Ext.rfl' _).alloc _).trans' hw1⟩
theorem valid_any (ns : List Nd) (root : Int) (A : Option Addr) (c : Nat) (w : World) (hr : NdsRd w A ns) (hroot : root ≤ 9223372036854775807) :
    Calls Tryz.prog 38 #[.agg #[.slice A ns.length c, .int .i64 root]] w fun e w' => e = .returned (.bool (validT ns root)) ∧ Ext w w' := by
  have hle := hr.1
  have HR := Lib.hid hr; clear hr
  have hcl : ∀ W : World, NdsRd W A ns → W.cell? ⟨w.heap.size, 0, none⟩ = some (.slice A ns.length c) →
      Calls Tryz.prog 52 #[.slice A ns.length c, .func (.func 53) #[] #[.pointer (some ⟨w.heap.size, 0, none⟩)]] W fun e w' => e = .returned (.bool (!ns.all fun n => validNd n ns.length)) ∧ Ext W w' := by
    intro W hW hp
    refine (containsFunc_nd 53 _ (fun _ _ => by kernel_rfl) A c ns W (fun k W' => Ext W W' ∧ ∀ j (h : j < ns.length), j < k → validNd ns[j] ns.length = true) (fun k W' => Ext W W' ∧ ∃ (h : k < ns.length), validNd ns[k] ns.length = false)
      ⟨Ext.rfl' _, fun _ _ h => absurd h (by omega)⟩ (fun k W' hi => hW.ext hi.1) ?_).mono ?_
    · rintro k hk W' v hi ⟨A1, c1, rfl, hc1, hr1⟩
      refine (valid1_any ns[k] A1 c1 ns.length c w.heap.size A W' hr1.1 hr1 (hi.1.cell hp)).mono ?_
      rintro e w1 ⟨rfl, hw1⟩
      cases hb : validNd ns[k] ns.length with
      | false => exact .inl ⟨rfl, hi.1.trans' hw1, hk, hb⟩
      | true =>
        refine .inr ⟨rfl, hi.1.trans' hw1, fun j hj hjk => ?_⟩
        rcases Nat.lt_or_ge j k with h | h
        · exact hi.2 j hj h
        · obtain rfl : j = k := by omega
          exact hb
    · rintro e w1 (⟨k, hk, rfl, hd, hk', hb⟩ | ⟨rfl, hd, hall⟩)
      · refine ⟨retB ?_, hd⟩
        cases ha : ns.all fun n => validNd n ns.length with
        | false => rfl
        | true => rw [List.all_eq_true.1 ha _ (List.getElem_mem hk)] at hb; cases hb
      · refine ⟨retB ?_, hd⟩
        have : (ns.all fun n => validNd n ns.length) = true := List.all_eq_true.2 fun x hx => by
          obtain ⟨j, hj, rfl⟩ := List.mem_iff_getElem.1 hx
          exact hall j hj hj
        rw [this]; rfl
  have HC := Lib.hid hcl; clear hcl
  rcases intLtGe (ns.length : Int) 1 with h1 | h1
  · have hf : decide ((1 : Int) ≤ (ns.length : Int)) = false := by simp; omega
    go_enter Tryz.func38, Tryz.ntmps38
    go_wp2
    all_goals go_ret
    all_goals (refine ⟨retB ?_, (Ext.rfl' _).alloc _⟩; rw [Bool.eq_iff_iff]; simp [validT]; omega)
  rcases intLtGe 8000 (ns.length : Int) with h2 | h2
  · have hf : decide ((ns.length : Int) ≤ 8000) = false := by simp; omega
    go_enter Tryz.func38, Tryz.ntmps38
    go_wp2
    all_goals go_ret
    all_goals (refine ⟨retB ?_, (Ext.rfl' _).alloc _⟩; rw [Bool.eq_iff_iff]; simp [validT]; omega)
  rcases intLtGe root 0 with h3 | h3
  · have hf : decide ((0 : Int) ≤ root) = false := by simp; omega
    go_enter Tryz.func38, Tryz.ntmps38
    go_wp2
    all_goals go_ret
    all_goals (refine ⟨retB ?_, (Ext.rfl' _).alloc _⟩; rw [Bool.eq_iff_iff]; simp [validT]; omega)
  rcases intLtGe root ns.length with h4 | h4
  · go_enter Tryz.func38, Tryz.ntmps38
    go_wp2_with (go_at_call 52; refine (HC.out _ (HR.out.ext ((Ext.rfl' _).alloc _)) ?hp).mono ?_; rotate_left; rintro e w1 ⟨rfl, hw1⟩)
    case hp => simp
    all_goals go_ret
    all_goals (refine ⟨retB ?_, ((Ext.rfl' _).alloc _).trans' hw1⟩; rw [Bool.eq_iff_iff]; simp [validT]; intro _; omega)
  · have hf : decide (root < (ns.length : Int)) = false := by simp; omega
    go_enter Tryz.func38, Tryz.ntmps38
    go_wp2
    all_goals go_ret
    all_goals (refine ⟨retB ?_, (Ext.rfl' _).alloc _⟩; rw [Bool.eq_iff_iff]; simp [validT]; omega)
end Go.Proofs.YtnleljpebnnhfaaGreatDoor

set_option linter.unusedSimpArgs false
set_option linter.unusedVariables false
namespace Go.Proofs.YtnleljpebnnhfaaGreatDoor
open Go.RowKit
def cmpI (a b : Int) : Int := if a < b then -1 else if b < a then 1 else 0
def cmpS (s t : ByteArray) : Int := if Op.bytesLess s.toList t.toList then -1 else if s.toList = t.toList then 0 else 1
def orI (a b : Int) : Int := if a = 0 then b else a
def cmpTop (m n : Nd) : Int :=
  if m.kind = n.kind then
    if m.kind = 3 then orI (cmpI m.args.length n.args.length) (cmpS m.label n.label) else orI (cmpS m.label n.label) (cmpI m.num n.num)
  else cmpI m.kind n.kind
theorem cmpInt_any (a b : Int) (w : World) :
    Calls Tryz.prog 74 #[.int .i64 a, .int .i64 b] w fun e w' => e = .returned (.int .i64 (cmpI a b)) ∧ w' = w := by
  go_enter Tryz.func74, Tryz.ntmps74
  go_wp2
  all_goals go_ret
  all_goals (refine ⟨retI ?_, rfl⟩; unfold cmpI; first | (rw [if_pos (by assumption)]) | (rw [if_neg (by omega), if_pos (by assumption)]) | (rw [if_neg (by omega), if_neg (by omega)]))
theorem cmpStr_any (a b : ByteArray) (w : World) :
    Calls Tryz.prog 76 #[.string a, .string b] w fun e w' => e = .returned (.int .i64 (cmpS a b)) ∧ w' = w := by
  go_enter Tryz.func76, Tryz.ntmps76
  go_wp2
  all_goals go_ret
  all_goals (refine ⟨retI ?_, rfl⟩; simp_all [cmpS])
set_option maxHeartbeats 400000 in
theorem or_any (A : Option Addr) (c : Nat) (a b : Int) (w : World) (hr : Rd iv w A [a, b]) :
    Calls Tryz.prog 75 #[.slice A 2 c] w fun e w' => e = .returned (.int .i64 (orI a b)) ∧ w' = w := by
  obtain ⟨bl, o, rfl, hc⟩ := hr.2 (by simp)
  have h0 : w.cell? ⟨bl, o, none⟩ = some (.int .i64 a) := hc 0 (by simp)
  have h1 : w.cell? ⟨bl, o + 1, none⟩ = some (.int .i64 b) := hc 1 (by simp)
  clear hc hr
  go_enter Tryz.func75, Tryz.ntmps75
  go_wp2
  go_loop [8] (fun i => i = .int .i64 0 ∨ (i = .int .i64 1 ∧ Hid (a = 0)) ∨ (i = .int .i64 2 ∧ Hid (a = 0) ∧ Hid (b = 0))) (fun i => 2 - (intOf i).toNat)
  case atStart => exact .inl rfl
  case round =>
    rcases hrel with rfl | ⟨rfl, ha⟩ | ⟨rfl, ha, hb⟩
    · by_cases h : a = 0
      · have H : Hid (a = 0) := h
        have h' : (a != 0) = false := by simp [h]
        clear h
        go_wp2
        exact ⟨.inr (.inl ⟨rfl, H⟩), by simp [intOf]⟩
      · have h' : (a != 0) = true := by simp [h]
        have H : Hid (¬ a = 0) := h
        clear h
        go_wp2
        go_ret
        exact ⟨retI (by rw [orI, if_neg H.out]), rfl⟩
    · by_cases h : b = 0
      · have H : Hid (b = 0) := h
        have h' : (b != 0) = false := by simp [h]
        clear h
        go_wp2
        exact ⟨.inr (.inr ⟨rfl, ha, H⟩), by simp [intOf]⟩
      · have h' : (b != 0) = true := by simp [h]
        have H : Hid (¬ b = 0) := h
        clear h
        go_wp2
        go_ret
        exact ⟨retI (by rw [orI, if_pos ha.out]), rfl⟩
    · go_wp2
      go_ret
      exact ⟨retI (by rw [orI, if_pos ha.out, hb.out]), rfl⟩
theorem rd_pair (X : World) (x y : Int) (T : TypeId) : Rd iv ((X.alloc (.cells #[.int .i64 x, .int .i64 y] T)).drew) (some ⟨X.heap.size, 0, none⟩) [x, y] :=
  ⟨by simp, fun _ => ⟨_, _, rfl, fun j hj => by
    match j, hj with
    | 0, _ => simp
    | 1, _ => simp⟩⟩
theorem quietOf {f : FuncId} {args : Array Value} {w : World} {v : Value} (h : Calls Tryz.prog f args w fun e w' => e = .returned v ∧ w' = w) : Calls Tryz.prog f args w fun e w' => e = .returned v ∧ w' = w := h
set_option maxRecDepth 100000 in
set_option maxHeartbeats 400000 in
theorem compareTop_any (m n : Nd) (A B : Option Addr) (c d : Nat) (w : World) (hm : m.args.length ≤ 140737488355328) (hn : n.args.length ≤ 140737488355328) :
    Calls Tryz.prog 50 #[.agg #[.int .i64 m.kind, .int .i64 m.num, .string m.label, .slice A m.args.length c], .agg #[.int .i64 n.kind, .int .i64 n.num, .string n.label, .slice B n.args.length d]] w
      fun e w' => e = .returned (.int .i64 (cmpTop m n)) ∧ Ext w w' := by
  by_cases hk : m.kind = n.kind
  · have f1 : (m.kind != n.kind) = false := by simp [hk]
    by_cases h3 : m.kind = 3
    · have f2 : (m.kind == 3) = true := by simp [h3]
      have hfin : cmpTop m n = orI (cmpI m.args.length n.args.length) (cmpS m.label n.label) := by rw [cmpTop, if_pos hk, if_pos h3]
      have HF := Lib.hid hfin; clear hfin hk h3
      go_enter Tryz.func50, Tryz.ntmps50
      go_wp2
      obtain ⟨X, hX⟩ : ∃ X, X = (w.alloc (.cells #[.int .i64 m.kind, .int .i64 m.num, .string m.label, .slice A m.args.length c] 46)).alloc (.cells #[.int .i64 n.kind, .int .i64 n.num, .string n.label, .slice B n.args.length d] 46) := ⟨_, rfl⟩
      rw [← hX]
      have gx : Ext w X := by rw [hX]; exact ((Ext.rfl' _).alloc _).alloc _
      have g0 : X.cell? ⟨w.heap.size, 3, none⟩ = some (.slice A m.args.length c) := by rw [hX]; simp
      have g1 : X.cell? ⟨w.heap.size, 2, none⟩ = some (.string m.label) := by rw [hX]; simp
      have g2 : X.cell? ⟨w.heap.size + 1, 3, none⟩ = some (.slice B n.args.length d) := by rw [hX]; simp
      have g3 : X.cell? ⟨w.heap.size + 1, 2, none⟩ = some (.string n.label) := by rw [hX]; simp
      have GX := Lib.hid gx
      clear hX gx
      refine wp_region_still_tail 12 (by kernel_rfl) (by kernel_rfl) ?_
      simp only [List.take_succ_cons, List.take_zero, List.drop_succ_cons, List.drop_zero]
      repeat still_step
      still_call (cmpInt_any _ _ _)
      repeat still_step
      still_call (cmpStr_any _ _ _)
      repeat still_step
      refine wpStill_nil ?_
      change wpList _ _ _ _ _ X.drew
      go_wp2_with (go_at_call 75; refine (or_any (some ⟨X.heap.size, 0, none⟩) 2 (cmpI m.args.length n.args.length) (cmpS m.label n.label) _ ?hr).mono ?_; rotate_left; rintro e w1 ⟨rfl, rfl⟩)
      case hr => exact rd_pair _ _ _ _
      go_ret
      exact ⟨retI HF.out.symm, (GX.out.alloc _).drew⟩
    · have f2 : (m.kind == 3) = false := by simp [h3]
      have hfin : cmpTop m n = orI (cmpS m.label n.label) (cmpI m.num n.num) := by rw [cmpTop, if_pos hk, if_neg h3]
      have HF := Lib.hid hfin; clear hfin hk h3
      go_enter Tryz.func50, Tryz.ntmps50
      go_wp2
      obtain ⟨X, hX⟩ : ∃ X, X = (w.alloc (.cells #[.int .i64 m.kind, .int .i64 m.num, .string m.label, .slice A m.args.length c] 46)).alloc (.cells #[.int .i64 n.kind, .int .i64 n.num, .string n.label, .slice B n.args.length d] 46) := ⟨_, rfl⟩
      rw [← hX]
      have gx : Ext w X := by rw [hX]; exact ((Ext.rfl' _).alloc _).alloc _
      have g0 : X.cell? ⟨w.heap.size, 1, none⟩ = some (.int .i64 m.num) := by rw [hX]; simp
      have g1 : X.cell? ⟨w.heap.size, 2, none⟩ = some (.string m.label) := by rw [hX]; simp
      have g2 : X.cell? ⟨w.heap.size + 1, 1, none⟩ = some (.int .i64 n.num) := by rw [hX]; simp
      have g3 : X.cell? ⟨w.heap.size + 1, 2, none⟩ = some (.string n.label) := by rw [hX]; simp
      have GX := Lib.hid gx
      clear hX gx
      refine wp_region_still_tail 10 (by kernel_rfl) (by kernel_rfl) ?_
      simp only [List.take_succ_cons, List.take_zero, List.drop_succ_cons, List.drop_zero]
      repeat still_step
      still_call (cmpStr_any _ _ _)
      repeat still_step
      still_call (cmpInt_any _ _ _)
      repeat still_step
      refine wpStill_nil ?_
      change wpList _ _ _ _ _ X.drew
      go_wp2_with (go_at_call 75; refine (or_any (some ⟨X.heap.size, 0, none⟩) 2 (cmpS m.label n.label) (cmpI m.num n.num) _ ?hr).mono ?_; rotate_left; rintro e w1 ⟨rfl, rfl⟩)
      case hr => exact rd_pair _ _ _ _
      go_ret
      exact ⟨retI HF.out.symm, (GX.out.alloc _).drew⟩
  · have f1 : (m.kind != n.kind) = true := by simp [hk]
    have hfin : cmpTop m n = cmpI m.kind n.kind := by rw [cmpTop, if_neg hk]
    have HF := Lib.hid hfin; clear hfin hk
    go_enter Tryz.func50, Tryz.ntmps50
    go_wp2_with (go_at_call 74; refine (cmpInt_any _ _ _).mono ?_; rintro e w1 ⟨rfl, rfl⟩)
    go_ret
    exact ⟨retI HF.out.symm, ((Ext.rfl' _).alloc _).alloc _⟩
end Go.Proofs.YtnleljpebnnhfaaGreatDoor

set_option linter.unusedSimpArgs false
set_option linter.unusedVariables false
namespace Go.Proofs.YtnleljpebnnhfaaGreatDoor
open Go.RowKit
set_option maxHeartbeats 400000 in
theorem rLetter_any (c : Nat) (w : World) :
    Calls Tryz.prog 101 #[.int .u8 c] w fun e w' => e = .returned (.bool (isLetterN c)) ∧ w = w' := by
  go_enter Tryz.func101, Tryz.ntmps101
  go_wp2
  all_goals go_ret
  all_goals refine ⟨retB ?_, rfl⟩
  all_goals (rw [Bool.eq_iff_iff]; simp [isLetterN]; try omega)
def rWordB (s : ByteArray) : Bool := decide (1 ≤ s.size) && decide (s.size ≤ 16) && allLetters s
theorem rWord_any (s : ByteArray) (w : World) :
    Calls Tryz.prog 73 #[.string s] w fun e w' => e = .returned (.bool (rWordB s)) ∧ w = w' := by
  by_cases h1 : s.size < 1
  · go_enter Tryz.func73, Tryz.ntmps73
    go_wp2
    all_goals go_ret
    all_goals (refine ⟨retB ?_, rfl⟩; rw [Bool.eq_iff_iff]; simp [rWordB]; omega)
  by_cases h2 : 16 < s.size
  · go_enter Tryz.func73, Tryz.ntmps73
    go_wp2
    all_goals go_ret
    all_goals (refine ⟨retB ?_, rfl⟩; rw [Bool.eq_iff_iff]; simp [rWordB]; omega)
  have hfin : rWordB s = allLetters s := by rw [Bool.eq_iff_iff]; simp [rWordB]; omega
  have HF := Lib.hid hfin; clear hfin
  have h1' : 1 ≤ s.size := by omega
  have h2' : s.size ≤ 16 := by omega
  have h3' : decide ((s.size : Int) < 1) = false := by simp; omega
  have h4' : decide (16 < (s.size : Int)) = false := by simp; omega
  clear h1 h2
  go_enter Tryz.func73, Tryz.ntmps73
  go_wp2
  go_loop [3] (fun i => ∃ k : Nat, k ≤ s.size ∧ i = .int .i64 k ∧ ∀ j, j < k → isLetterN (bt s j) = true) (fun i => s.size - (intOf i).toNat)
  case atStart => exact ⟨0, by omega, rfl, fun j hj => by omega⟩
  case round =>
    obtain ⟨k, hk, rfl, hall⟩ := hrel
    have HA := Lib.hid hall; clear hall
    by_cases hlt : k < s.size
    · have he := bt_eq s k hlt
      cases hf : isLetterN (bt s k) with
      | false =>
        have hf' : isLetterN (s[k]'hlt).toNat = false := by rw [he]; exact hf
        have HF1 := Lib.hid hf; clear hf he
        go_wp2_with (go_at_call 101; refine (rLetter_any _ _).mono ?_; rintro e w' ⟨rfl, rfl⟩)
        go_ret
        refine ⟨retB ?_, rfl⟩
        rw [HF.out]
        cases ha : allLetters s with
        | false => rfl
        | true => have := HF1.out; rw [(allLetters_iff s).1 ha k hlt] at this; cases this
      | true =>
        have hf' : isLetterN (s[k]'hlt).toNat = true := by rw [he]; exact hf
        have HF1 := Lib.hid hf; clear hf he
        go_wp2_with (go_at_call 101; refine (rLetter_any _ _).mono ?_; rintro e w' ⟨rfl, rfl⟩)
        refine ⟨⟨k + 1, by omega, by go_num, fun j hj => ?_⟩, by simp [intOf]; omega⟩
        rcases Nat.lt_or_ge j k with h | h
        · exact HA.out j h
        · obtain rfl : j = k := by omega
          exact HF1.out
    · go_wp2
      go_ret
      exact ⟨retB (by rw [HF.out]; exact ((allLetters_iff s).2 fun j hj => HA.out j (by omega)).symm), rfl⟩
theorem rAtom_eq (s : ByteArray) : (barB s || hashB s || (rWordB s && (decide (97 ≤ bt s 0) && decide (bt s 0 ≤ 122)))) = atomB s := by
  rw [Bool.eq_iff_iff]; simp [atomB, wordB, rWordB, and_assoc]
  grind
theorem rAtom_any (s : ByteArray) (w : World) :
    Calls Tryz.prog 49 #[.string s] w fun e w' => e = .returned (.bool (atomB s)) ∧ w = w' := by
  have hfin := rAtom_eq s
  have HF := Lib.hid hfin; clear hfin
  cases hb : barB s with
  | true =>
    have hb' : s.toList = [124] := by simpa [barB] using hb
    clear hb
    go_enter Tryz.func49, Tryz.ntmps49
    go_wp2
    all_goals go_ret
    all_goals (refine ⟨retB ?_, rfl⟩; rw [← HF.out]; simp [barB, hb'])
  | false =>
  cases hh : hashB s with
  | true =>
    have hb' : ¬ s.toList = [124] := by simpa [barB] using hb
    have hh' : s.toList = [35] := by simpa [hashB] using hh
    clear hb hh
    go_enter Tryz.func49, Tryz.ntmps49
    go_wp2
    all_goals go_ret
    all_goals (refine ⟨retB ?_, rfl⟩; rw [← HF.out]; simp [hashB, hh'])
  | false =>
  have hb' : ¬ s.toList = [124] := by simpa [barB] using hb
  have hh' : ¬ s.toList = [35] := by simpa [hashB] using hh
  have HB := Lib.hid hb
  have HH := Lib.hid hh
  clear hb hh
  cases hw : rWordB s with
  | false =>
    go_enter Tryz.func49, Tryz.ntmps49
    go_wp2_with (go_at_call 73; refine (rWord_any _ _).mono ?_; rintro e w' ⟨rfl, rfl⟩)
    all_goals go_ret
    all_goals (refine ⟨retB ?_, rfl⟩; rw [← HF.out, HB.out, HH.out, hw]; rfl)
  | true =>
    have hs : 0 < s.size := by simp [rWordB] at hw; omega
    have he := bt_eq s 0 hs
    have HE := Lib.hid he; clear he
    go_enter Tryz.func49, Tryz.ntmps49
    go_wp2_with (go_at_call 73; refine (rWord_any _ _).mono ?_; rintro e w' ⟨rfl, rfl⟩)
    all_goals go_ret
    all_goals (refine ⟨retB ?_, rfl⟩; rw [← HF.out, HB.out, HH.out, hw, ← HE.out]; rw [Bool.eq_iff_iff]; simp; try omega)

set_option maxHeartbeats 1000000 in
theorem right_any (n : Nd) (size : Int) (A : Option Addr) (c : Nat) (w : World) (hl : n.args.length ≤ 140737488355328) (hr : Rd iv w A n.args) :
    Calls Tryz.prog 34 #[.agg #[.int .i64 n.kind, .int .i64 n.num, .string n.label, .slice A n.args.length c], .int .i64 size] w
      fun e w' => e = .returned (.bool (validNd n size)) ∧ Ext w w' := by
  obtain ⟨kind, num, label, args⟩ := n
  simp only at hr hl ⊢
  have HR := Lib.hid hr; clear hr
  by_cases h0 : kind = 0
  · subst h0
    go_enter Tryz.func34, Tryz.ntmps34
    go_wp2
    all_goals go_ret
    all_goals (refine ⟨retB ?_, (Ext.rfl' _).alloc _⟩)
    all_goals (rw [Bool.eq_iff_iff]; simp_all [validNd, emptyB, List.isEmpty_iff, List.length_eq_zero_iff]; try omega)
  by_cases h1 : kind = 1
  · subst h1
    go_enter Tryz.func34, Tryz.ntmps34
    go_wp2
    all_goals go_ret
    all_goals (refine ⟨retB ?_, (Ext.rfl' _).alloc _⟩)
    all_goals (rw [Bool.eq_iff_iff]; simp_all [validNd, emptyB, List.isEmpty_iff, List.length_eq_zero_iff]; try omega)
  by_cases h2 : kind = 2
  · subst h2
    go_enter Tryz.func34, Tryz.ntmps34
    go_wp2_with (go_at_call 49; refine (rAtom_any _ _).mono ?_; rintro e w' ⟨rfl, rfl⟩)
    all_goals go_ret
    all_goals (refine ⟨retB ?_, (Ext.rfl' _).alloc _⟩)
    all_goals (rw [Bool.eq_iff_iff]; simp_all [validNd, emptyB, List.isEmpty_iff, List.length_eq_zero_iff]; try omega)
  by_cases h4 : kind = 4
  · subst h4
    go_enter Tryz.func34, Tryz.ntmps34
    go_wp2
    all_goals go_ret
    all_goals (refine ⟨retB ?_, (Ext.rfl' _).alloc _⟩)
    all_goals (rw [Bool.eq_iff_iff]; simp_all [validNd, namesB, List.isEmpty_iff, List.length_eq_zero_iff]; try omega)
  by_cases h3 : kind = 3
  · subst h3
    go_enter Tryz.func34, Tryz.ntmps34
    go_wp2_with (go_at_call 49; refine (rAtom_any _ _).mono ?_; rintro e w' ⟨rfl, rfl⟩)
    all_goals try (go_ret; refine ⟨retB ?_, (Ext.rfl' _).alloc _⟩; rw [Bool.eq_iff_iff]; (simp_all [validNd]; try omega); done)
    have hfin : num = 0 → validNd { kind := 3, num := 0, label := label, args := args } size = args.all (inB size) := by
      intro _; rw [Bool.eq_iff_iff]; simp_all [validNd]; intro _; omega
    have HF := Lib.hid hfin; clear hfin
    go_loop [5] (fun i => ∃ k : Nat, k ≤ args.length ∧ i = .int .i64 k ∧ (∀ j (h : j < args.length), j < k → inB size args[j] = true)) (fun i => args.length - (intOf i).toNat)
    case atStart => exact ⟨0, by omega, rfl, fun j _ hj => by omega⟩
    case round =>
      obtain ⟨k, hk, rfl, hall⟩ := hrel
      have HA := Lib.hid hall; clear hall
      by_cases hlt : k < args.length
      · obtain ⟨b, o, rfl, hc⟩ := HR.out.2 (by omega)
        have hcell := hc k hlt
        have hb : b < w.heap.size := World.block_lt_of_cell? w _ hcell
        clear hc
        cases hin : inB size args[k] with
        | true =>
          have hf1 : decide (args[k] < 0) = false := by simp [inB] at hin; simp; omega
          have hf2 : decide (size ≤ args[k]) = false := by simp [inB] at hin; simp; omega
          have HI := Lib.hid hin; clear hin
          go_wp2
          refine ⟨⟨k + 1, by omega, by go_num, fun j hj hjk => ?_⟩, by simp [intOf]; omega⟩
          rcases Nat.lt_or_ge j k with h | h
          · exact HA.out j hj h
          · obtain rfl : j = k := by omega
            exact HI.out
        | false =>
          have hno : args.all (inB size) = false := by
            cases ha : args.all (inB size) with
            | false => rfl
            | true => rw [List.all_eq_true.1 ha _ (List.getElem_mem hlt)] at hin; cases hin
          have HN := Lib.hid hno; clear hno
          by_cases hneg : args[k] < 0
          · have hf1 : decide (args[k] < 0) = true := by simp; omega
            clear hin
            go_wp2
            go_ret
            exact ⟨retB (by rw [HF.out (by assumption), HN.out]), (Ext.rfl' _).alloc _⟩
          · have hf1 : decide (args[k] < 0) = false := by simp; omega
            have hf2 : decide (size ≤ args[k]) = true := by simp [inB] at hin; simp; omega
            clear hin
            go_wp2
            go_ret
            exact ⟨retB (by rw [HF.out (by assumption), HN.out]), (Ext.rfl' _).alloc _⟩
      · go_wp2
        go_ret
        have ht : args.all (inB size) = true := List.all_eq_true.2 fun x hx => by
          obtain ⟨j, hj, rfl⟩ := List.mem_iff_getElem.1 hx
          exact HA.out j hj (by omega)
        exact ⟨retB (by rw [HF.out (by assumption), ht]), (Ext.rfl' _).alloc _⟩
  · go_enter Tryz.func34, Tryz.ntmps34
    go_wp2
    all_goals go_ret
    all_goals (refine ⟨retB ?_, (Ext.rfl' _).alloc _⟩; simp [validNd, h0, h1, h2, h3, h4])
end Go.Proofs.YtnleljpebnnhfaaGreatDoor

set_option linter.unusedSimpArgs false
set_option linter.unusedVariables false
namespace Go.Proofs.YtnleljpebnnhfaaGreatDoor
open Go.RowKit
set_option maxRecDepth 100000 in
theorem rValid_any (ns : List Nd) (root : Int) (A : Option Addr) (c : Nat) (w : World) (hr : NdsRd w A ns) (hroot : root ≤ 9223372036854775807) :
    Calls Tryz.prog 24 #[.agg #[.slice A ns.length c, .int .i64 root]] w fun e w' => e = .returned (.bool (validT ns root)) ∧ Ext w w' := by
  have hle := hr.1
  have HR := Lib.hid hr; clear hr
  by_cases hv : 1 ≤ ns.length ∧ ns.length ≤ 8000 ∧ 0 ≤ root ∧ root < ns.length
  · obtain ⟨h1, h2, h3, h4⟩ := hv
    have hfin : validT ns root = ns.all fun n => validNd n ns.length := by rw [Bool.eq_iff_iff]; simp [validT]; intro _; omega
    have HF := Lib.hid hfin; clear hfin
    have f1 : decide ((ns.length : Int) < 1) = false := by simp; omega
    have f2 : decide (8000 < (ns.length : Int)) = false := by simp; omega
    have f3 : decide (root < 0) = false := by simp; omega
    have f4 : decide ((ns.length : Int) ≤ root) = false := by simp; omega
    go_enter Tryz.func24, Tryz.ntmps24
    go_wp2
    go_loopw [3] (fun i wr => ∃ k : Nat, k ≤ ns.length ∧ i = .int .i64 k ∧ (∀ j (h : j < ns.length), j < k → validNd ns[j] ns.length = true) ∧ Ext (w.alloc (.cells #[.slice A ns.length c, .int .i64 root] 24)) wr) (fun i _ => ns.length - (intOf i).toNat)
    case atStart => exact ⟨0, by omega, rfl, fun j _ hj => by omega, Ext.rfl' _⟩
    case round =>
      obtain ⟨k, hk, rfl, hall, hext⟩ := hrel
      have HA := Lib.hid hall; clear hall
      have g0 : wr.cell? ⟨w.heap.size, 0, none⟩ = some (.slice A ns.length c) := hext.cell (by simp)
      have HX := Lib.hid hext; clear hext
      by_cases hlt : k < ns.length
      · obtain ⟨b, o, rfl, hc⟩ := (HR.out.ext (((Ext.rfl' _).alloc _).trans' HX.out)).2 (by omega)
        obtain ⟨A1, c1, q0, q1, q2, q3, q4, q5⟩ := hc k hlt
        have Q5 := Lib.hid q5
        have q6 := q5.1
        clear hc q5
        go_wp2
        go_still_tail 8, (by kernel_rfl)
        change wpList _ _ _ _ _ wr.drew
        cases hv : validNd ns[k] ns.length with
        | false =>
          have hno : (ns.all fun n => validNd n ns.length) = false := by
            cases ha : ns.all fun n => validNd n ns.length with
            | false => rfl
            | true => rw [List.all_eq_true.1 ha _ (List.getElem_mem hlt)] at hv; cases hv
          have HN := Lib.hid hno; clear hno
          go_wp2_with (go_at_call 34; refine (right_any ns[k] ns.length A1 c1 _ q6 (Q5.out.ext (Ext.rfl' _).drew)).mono ?_; rintro e w1 ⟨rfl, hw1⟩)
          go_ret
          exact ⟨retB (by rw [HF.out, HN.out]), ((((Ext.rfl' _).alloc _).trans' HX.out).drew).trans' hw1⟩
        | true =>
          have HV := Lib.hid hv
          go_wp2_with (go_at_call 34; refine (right_any ns[k] ns.length A1 c1 _ q6 (Q5.out.ext (Ext.rfl' _).drew)).mono ?_; rintro e w1 ⟨rfl, hw1⟩)
          refine ⟨⟨k + 1, by omega, by go_num, fun j hj hjk => ?_, HX.out.drew.trans' hw1⟩, by simp [intOf]; omega⟩
          rcases Nat.lt_or_ge j k with h | h
          · exact HA.out j hj h
          · obtain rfl : j = k := by omega
            exact HV.out
      · go_wp2
        go_ret
        have ht : (ns.all fun n => validNd n ns.length) = true := List.all_eq_true.2 fun x hx => by
          obtain ⟨j, hj, rfl⟩ := List.mem_iff_getElem.1 hx
          exact HA.out j hj (by omega)
        exact ⟨retB (by rw [HF.out, ht]), ((Ext.rfl' _).alloc _).trans' HX.out⟩
  · have hfin : validT ns root = false := by
      cases ha : validT ns root with
      | false => rfl
      | true => simp [validT] at ha; omega
    have HF := Lib.hid hfin; clear hfin
    by_cases h1 : (ns.length : Int) < 1
    · have f1 : decide ((ns.length : Int) < 1) = true := by simp; omega
      clear hv
      go_enter Tryz.func24, Tryz.ntmps24
      go_wp2
      all_goals go_ret
      all_goals exact ⟨retB (by rw [HF.out]), (Ext.rfl' _).alloc _⟩
    have f1 : decide ((ns.length : Int) < 1) = false := by simp; omega
    by_cases h2 : 8000 < (ns.length : Int)
    · have f2 : decide (8000 < (ns.length : Int)) = true := by simp; omega
      clear hv
      go_enter Tryz.func24, Tryz.ntmps24
      go_wp2
      all_goals go_ret
      all_goals exact ⟨retB (by rw [HF.out]), (Ext.rfl' _).alloc _⟩
    have f2 : decide (8000 < (ns.length : Int)) = false := by simp; omega
    by_cases h3 : root < 0
    · have f3 : decide (root < 0) = true := by simp; omega
      clear hv
      go_enter Tryz.func24, Tryz.ntmps24
      go_wp2
      all_goals go_ret
      all_goals exact ⟨retB (by rw [HF.out]), (Ext.rfl' _).alloc _⟩
    have f3 : decide (root < 0) = false := by simp; omega
    have f4 : decide ((ns.length : Int) ≤ root) = true := by simp; omega
    clear hv
    go_enter Tryz.func24, Tryz.ntmps24
    go_wp2
    all_goals go_ret
    all_goals exact ⟨retB (by rw [HF.out]), (Ext.rfl' _).alloc _⟩
end Go.Proofs.YtnleljpebnnhfaaGreatDoor

set_option linter.unusedSimpArgs false
set_option linter.unusedVariables false
namespace Go.Proofs.YtnleljpebnnhfaaGreatDoor

def gt (d : List Int) (i : Nat) : Int := d.getD i 0
theorem gt_eq (d : List Int) (i : Nat) (h : i < d.length) : d[i] = gt d i := by simp [gt, List.getD_eq_getElem?_getD, h]
theorem gt_set (d : List Int) (i : Nat) (x : Int) (h : i < d.length) (k : Nat) : gt (d.set i x) k = if k = i then x else gt d k := by
  simp only [gt, List.getD_eq_getElem?_getD, List.getElem?_set]
  by_cases hk : i = k
  · subst hk; simp [h]
  · rw [if_neg hk, if_neg (fun e => hk e.symm)]
def swapL (d : List Int) (i j : Nat) : List Int := (d.set i (gt d j)).set j (gt d i)
theorem swapL_length (d : List Int) (i j : Nat) : (swapL d i j).length = d.length := by simp [swapL]
theorem gt_swapL (d : List Int) (i j : Nat) (hi : i < d.length) (hj : j < d.length) (k : Nat) : gt (swapL d i j) k = if k = j then gt d i else if k = i then gt d j else gt d k := by
  unfold swapL
  rw [gt_set _ _ _ (by simpa using hj)]
  split
  · rfl
  · rw [gt_set _ _ _ hi]

/-- d' is d with the places of a..b permuted. -/
def PermOn (a b : Nat) (d d' : List Int) : Prop :=
  d'.length = d.length ∧ ∃ p q : Nat → Nat, (∀ k, a ≤ k → k < b → a ≤ p k ∧ p k < b ∧ a ≤ q k ∧ q k < b ∧ q (p k) = k ∧ p (q k) = k) ∧ (∀ k, k < a ∨ b ≤ k → p k = k ∧ q k = k) ∧ ∀ k, gt d' k = gt d (p k)
theorem PermOn.refl (a b : Nat) (d : List Int) : PermOn a b d d := ⟨rfl, id, id, fun k h1 h2 => ⟨h1, h2, h1, h2, rfl, rfl⟩, fun _ _ => ⟨rfl, rfl⟩, fun _ => rfl⟩
theorem PermOn.trans {a b : Nat} {d d' d'' : List Int} (h : PermOn a b d d') (k : PermOn a b d' d'') : PermOn a b d d'' := by
  obtain ⟨l1, p1, q1, i1, o1, e1⟩ := h
  obtain ⟨l2, p2, q2, i2, o2, e2⟩ := k
  refine ⟨l2.trans l1, fun k => p1 (p2 k), fun k => q2 (q1 k), fun k h1 h2 => ?_, fun k hk => ?_, fun k => (e2 k).trans (e1 _)⟩
  · obtain ⟨a1, a2, a3, a4, a5, a6⟩ := i2 k h1 h2
    obtain ⟨b1, b2, b3, b4, b5, b6⟩ := i1 k h1 h2
    obtain ⟨c1, c2, c3, c4, c5, c6⟩ := i1 _ a1 a2
    obtain ⟨d1, d2, d3, d4, d5, d6⟩ := i2 _ b3 b4
    exact ⟨c1, c2, d3, d4, by show q2 (q1 (p1 (p2 k))) = k; rw [c5, a5], by show p1 (p2 (q2 (q1 k))) = k; rw [d6, b6]⟩
  · obtain ⟨a1, a2⟩ := o2 k hk
    obtain ⟨b1, b2⟩ := o1 k hk
    simp only [a1, b1, b2, a2]
    exact ⟨trivial, trivial⟩
theorem PermOn.widen {a b a' b' : Nat} {d d' : List Int} (h : PermOn a b d d') (ha : a' ≤ a) (hb : b ≤ b') : PermOn a' b' d d' := by
  obtain ⟨l1, p, q, i1, o1, e1⟩ := h
  refine ⟨l1, p, q, fun k h1 h2 => ?_, fun k hk => o1 k (by omega), e1⟩
  by_cases hk : a ≤ k ∧ k < b
  · obtain ⟨a1, a2, a3, a4, a5, a6⟩ := i1 k hk.1 hk.2
    exact ⟨by omega, by omega, by omega, by omega, a5, a6⟩
  · obtain ⟨a1, a2⟩ := o1 k (by omega)
    rw [a1, a2, a1]
    exact ⟨h1, h2, h1, h2, rfl, rfl⟩
theorem PermOn.swap (a b : Nat) (d : List Int) (i j : Nat) (hi : i < d.length) (hj : j < d.length) (h1 : a ≤ i) (h2 : i < b) (h3 : a ≤ j) (h4 : j < b) : PermOn a b d (swapL d i j) := by
  refine ⟨swapL_length d i j, fun k => if k = j then i else if k = i then j else k, fun k => if k = j then i else if k = i then j else k, fun k h1 h2 => ?_, fun k hk => ?_, fun k => ?_⟩
  · dsimp only
    refine ⟨?_, ?_, ?_, ?_, ?_, ?_⟩ <;> (repeat' split) <;> omega
  · dsimp only
    constructor <;> (repeat' split) <;> omega
  · rw [gt_swapL d i j hi hj]
    dsimp only
    repeat' split
    all_goals rfl
theorem PermOn.out {a b : Nat} {d d' : List Int} (h : PermOn a b d d') (k : Nat) (hk : k < a ∨ b ≤ k) : gt d' k = gt d k := by
  obtain ⟨_, p, q, _, o, e⟩ := h
  rw [e, (o k hk).1]
theorem PermOn.from' {a b : Nat} {d d' : List Int} (h : PermOn a b d d') (k : Nat) (h1 : a ≤ k) (h2 : k < b) : ∃ j, a ≤ j ∧ j < b ∧ gt d' k = gt d j := by
  obtain ⟨_, p, q, i, o, e⟩ := h
  exact ⟨p k, (i k h1 h2).1, (i k h1 h2).2.1, e k⟩
theorem PermOn.onto {a b : Nat} {d d' : List Int} (h : PermOn a b d d') (k : Nat) (h1 : a ≤ k) (h2 : k < b) : ∃ j, a ≤ j ∧ j < b ∧ gt d' j = gt d k := by
  obtain ⟨_, p, q, i, o, e⟩ := h
  obtain ⟨_, _, c1, c2, _, c4⟩ := i k h1 h2
  exact ⟨q k, c1, c2, by rw [e, c4]⟩
theorem PermOn.len {a b : Nat} {d d' : List Int} (h : PermOn a b d d') : d'.length = d.length := h.1
theorem PermOn.all {a b : Nat} {d d' : List Int} (h : PermOn a b d d') {S : Int → Prop} {n : Nat} (hb : b ≤ n) (hs : ∀ k, k < n → S (gt d k)) : ∀ k, k < n → S (gt d' k) := by
  intro k hk
  by_cases hin : a ≤ k ∧ k < b
  · obtain ⟨j, h1, h2, e⟩ := h.from' k hin.1 hin.2
    rw [e]; exact hs j (by omega)
  · rw [h.out k (by omega)]; exact hs k hk

/-- What swapRange leaves. -/
def IsSwapR (d d' : List Int) (a b n : Nat) : Prop :=
  d'.length = d.length ∧ ∀ k, gt d' k = if a ≤ k ∧ k < a + n then gt d (k - a + b) else if b ≤ k ∧ k < b + n then gt d (k - b + a) else gt d k
theorem isSwapR_zero (d : List Int) (a b : Nat) : IsSwapR d d a b 0 := ⟨rfl, fun k => by rw [if_neg (by omega), if_neg (by omega)]⟩
theorem IsSwapR.step {d d' : List Int} {a b n : Nat} (h : IsSwapR d d' a b n) (hab : a + n < b) (hb : b + n < d.length) : IsSwapR d (swapL d' (a + n) (b + n)) a b (n + 1) := by
  obtain ⟨hl, he⟩ := h
  refine ⟨by rw [swapL_length, hl], fun k => ?_⟩
  rw [gt_swapL _ _ _ (by omega) (by omega)]
  by_cases h1 : k = b + n
  · subst h1
    rw [if_pos rfl, if_neg (by omega), if_pos (by omega), he, if_neg (by omega), if_neg (by omega)]
    congr 1; omega
  · rw [if_neg h1]
    by_cases h2 : k = a + n
    · subst h2
      rw [if_pos rfl, if_pos (by omega), he, if_neg (by omega), if_neg (by omega)]
      congr 1; omega
    · rw [if_neg h2, he]
      by_cases h3 : a ≤ k ∧ k < a + n
      · rw [if_pos h3, if_pos (by omega)]
      · rw [if_neg h3, if_neg (show ¬ (a ≤ k ∧ k < a + (n + 1)) by omega)]
        by_cases h4 : b ≤ k ∧ k < b + n
        · rw [if_pos h4, if_pos (by omega)]
        · rw [if_neg h4, if_neg (by omega)]
/-- What rotate leaves: the places a..m and m..b exchanged. -/
def IsRot (d d' : List Int) (a m b : Nat) : Prop :=
  d'.length = d.length ∧ ∀ k, gt d' k = if a ≤ k ∧ k < a + (b - m) then gt d (k + (m - a)) else if a + (b - m) ≤ k ∧ k < b then gt d (k - (b - m)) else gt d k
/-- The last step of rotate: both parts are of one length. -/
theorem isRot_of_swap {d d' : List Int} {m i : Nat} (h : IsSwapR d d' (m - i) m i) (hi : i ≤ m) : IsRot d d' (m - i) m (m + i) := by
  refine ⟨h.1, fun k => ?_⟩
  rw [h.2]
  by_cases h1 : m - i ≤ k ∧ k < m - i + i
  · rw [if_pos h1, if_pos (by omega)]; congr 1; omega
  · rw [if_neg h1, if_neg (show ¬ (m - i ≤ k ∧ k < m - i + (m + i - m)) by omega)]
    by_cases h2 : m ≤ k ∧ k < m + i
    · rw [if_pos h2, if_pos (by omega)]; congr 1; omega
    · rw [if_neg h2, if_neg (by omega)]
/-- A step of rotate with the left part longer. -/
theorem isRot_left {d d1 d' : List Int} {m i j : Nat} (h : IsSwapR d d1 (m - i) m j) (hi : i ≤ m) (hj : j < i) (k : IsRot d1 d' (m - (i - j)) m (m + j)) : IsRot d d' (m - i) m (m + j) := by
  refine ⟨k.1.trans h.1, fun x => ?_⟩
  rw [k.2]
  by_cases h1 : m - i ≤ x ∧ x < m - i + (m + j - m)
  · rw [if_pos h1, if_neg (by omega), if_neg (by omega), h.2, if_pos (by omega)]; congr 1; omega
  · rw [if_neg h1]
    by_cases h2 : m - i + (m + j - m) ≤ x ∧ x < m + j
    · rw [if_pos h2]
      by_cases h3 : m - (i - j) ≤ x ∧ x < m - (i - j) + (m + j - m)
      · rw [if_pos h3, h.2, if_neg (by omega), if_pos (by omega)]; congr 1; omega
      · rw [if_neg h3, if_pos (by omega), h.2, if_neg (by omega), if_neg (by omega)]
    · rw [if_neg h2, if_neg (by omega), if_neg (by omega), h.2, if_neg (by omega), if_neg (by omega)]
/-- A step of rotate with the right part longer. -/
theorem isRot_right {d d1 d' : List Int} {m i j : Nat} (h : IsSwapR d d1 (m - i) (m + j - i) i) (hi : i ≤ m) (hj : i < j) (k : IsRot d1 d' (m - i) m (m + (j - i))) : IsRot d d' (m - i) m (m + j) := by
  refine ⟨k.1.trans h.1, fun x => ?_⟩
  rw [k.2]
  by_cases h1 : m - i ≤ x ∧ x < m - i + (m + j - m)
  · rw [if_pos h1]
    by_cases h3 : m - i ≤ x ∧ x < m - i + (m + (j - i) - m)
    · rw [if_pos h3, h.2, if_neg (by omega), if_neg (by omega)]
    · rw [if_neg h3]
      by_cases h4 : m - i + (m + (j - i) - m) ≤ x ∧ x < m + (j - i)
      · rw [if_pos h4, h.2, if_pos (by omega)]; congr 1; omega
      · omega
  · rw [if_neg h1]
    by_cases h2 : m - i + (m + j - m) ≤ x ∧ x < m + j
    · rw [if_pos h2, if_neg (by omega)]
      by_cases h3 : m - i + (m + (j - i) - m) ≤ x ∧ x < m + (j - i)
      · rw [if_pos h3, h.2, if_pos (by omega)]; congr 1; omega
      · rw [if_neg h3, h.2, if_neg (by omega), if_pos (by omega)]; congr 1; omega
    · rw [if_neg h2, if_neg (by omega), if_neg (by omega), h.2, if_neg (by omega), if_neg (by omega)]

/-! ### sortedness -/
structure Order (le : Int → Int → Prop) : Prop where
  trans : ∀ {a b c}, le a b → le b c → le a c
  total : ∀ a b, le a b ∨ le b a
theorem Order.refl {le : Int → Int → Prop} (O : Order le) (a : Int) : le a a := (O.total a a).elim id id
theorem Order.of_not {le : Int → Int → Prop} (O : Order le) {a b : Int} (h : ¬ le a b) : le b a := (O.total a b).resolve_left h
def SortedOn (le : Int → Int → Prop) (d : List Int) (a b : Nat) : Prop := ∀ i j, a ≤ i → i < j → j < b → le (gt d i) (gt d j)
section
variable {le : Int → Int → Prop} (O : Order le)
include O
theorem SortedOn.le' {d : List Int} {a b : Nat} (h : SortedOn le d a b) {i j : Nat} (h1 : a ≤ i) (h2 : i ≤ j) (h3 : j < b) : le (gt d i) (gt d j) := by
  rcases Nat.lt_or_ge i j with hl | hl
  · exact h i j h1 hl h3
  · obtain rfl : i = j := by omega
    exact O.refl _
omit O in
/-- Two sorted parts, each of the first below each of the second. -/
theorem sortedOn_join {d : List Int} {a m b : Nat} (h1 : SortedOn le d a m) (h2 : SortedOn le d m b) (hx : ∀ i j, a ≤ i → i < m → m ≤ j → j < b → le (gt d i) (gt d j)) : SortedOn le d a b := by
  intro i j hi hij hj
  by_cases h3 : j < m
  · exact h1 i j hi hij h3
  · by_cases h4 : i < m
    · exact hx i j hi h4 (by omega) hj
    · exact h2 i j (by omega) hij hj
omit O in
theorem isRot_refl_left {d : List Int} {m e : Nat} : IsRot d d m m e := ⟨rfl, fun k => by (repeat' split) <;> first | rfl | omega | (congr 1 <;> omega)⟩
omit O in
theorem isRot_refl_right {d : List Int} {s m : Nat} (h : s ≤ m) : IsRot d d s m m := ⟨rfl, fun k => by (repeat' split) <;> first | rfl | omega | (congr 1 <;> omega)⟩
/-- symMerge's step: what the rotation and both merges leave is sorted. -/
theorem symMerge_core {d d1 d2 d3 : List Int} {a m mid b s e : Nat} (has : a ≤ s) (hsm : s ≤ m) (hme : m ≤ e) (heb : e ≤ b) (hn : s + e = mid + m)
    (hs1 : SortedOn le d a m) (hs2 : SortedOn le d m b)
    (hL : ∀ i j, a ≤ i → i < s → e ≤ j → j < b → le (gt d i) (gt d j)) (hR : ∀ i j, m ≤ i → i < e → s ≤ j → j < m → le (gt d i) (gt d j))
    (hrot : IsRot d d1 s m e) (hp1 : PermOn s e d d1)
    (hp2 : PermOn a mid d1 d2) (hq2 : SortedOn le d1 a s → SortedOn le d1 s mid → SortedOn le d2 a mid)
    (hp3 : PermOn mid b d2 d3) (hq3 : SortedOn le d2 mid e → SortedOn le d2 e b → SortedOn le d3 mid b) :
    PermOn a b d d3 ∧ SortedOn le d3 a b := by
  have g1 : ∀ k, k < s → gt d1 k = gt d k := fun k hk => hp1.out k (.inl hk)
  have g4 : ∀ k, e ≤ k → gt d1 k = gt d k := fun k hk => hp1.out k (.inr hk)
  have g2 : ∀ k, s ≤ k → k < mid → gt d1 k = gt d (k + (m - s)) := fun k h1 h2 => by rw [hrot.2, if_pos (by omega)]
  have g3 : ∀ k, mid ≤ k → k < e → gt d1 k = gt d (k - (e - m)) := fun k h1 h2 => by rw [hrot.2, if_neg (by omega), if_pos (by omega)]
  have q1 : SortedOn le d1 a s := fun i j h1 h2 h3 => by rw [g1 i (by omega), g1 j h3]; exact hs1 i j h1 h2 (by omega)
  have q2 : SortedOn le d1 s mid := fun i j h1 h2 h3 => by rw [g2 i h1 (by omega), g2 j (by omega) h3]; exact hs2 _ _ (by omega) (by omega) (by omega)
  have hsorted2 := hq2 q1 q2
  have o2 : ∀ k, mid ≤ k → gt d2 k = gt d1 k := fun k hk => hp2.out k (.inr hk)
  have q3 : SortedOn le d2 mid e := fun i j h1 h2 h3 => by rw [o2 i h1, o2 j (by omega), g3 i h1 (by omega), g3 j (by omega) h3]; exact hs1 _ _ (by omega) (by omega) (by omega)
  have q4 : SortedOn le d2 e b := fun i j h1 h2 h3 => by rw [o2 i (by omega), o2 j (by omega), g4 i h1, g4 j (by omega)]; exact hs2 _ _ (by omega) (by omega) h3
  have hsorted3 := hq3 q3 q4
  have cross1 : ∀ i j, a ≤ i → i < mid → mid ≤ j → j < b → le (gt d1 i) (gt d1 j) := by
    intro i j h1 h2 h3 h4
    by_cases h5 : i < s
    · rw [g1 i h5]
      by_cases h6 : j < e
      · rw [g3 j h3 h6]; exact SortedOn.le' O hs1 h1 (by omega) (by omega)
      · rw [g4 j (by omega)]; exact hL i j h1 h5 (by omega) h4
    · rw [g2 i (by omega) h2]
      by_cases h6 : j < e
      · rw [g3 j h3 h6]; exact hR _ _ (by omega) (by omega) (by omega) (by omega)
      · rw [g4 j (by omega)]; exact SortedOn.le' O hs2 (by omega) (by omega) h4
  refine ⟨((hp1.widen has heb).trans (hp2.widen (Nat.le_refl _) (by omega))).trans (hp3.widen (by omega) (Nat.le_refl _)), ?_⟩
  have o3 : ∀ k, k < mid → gt d3 k = gt d2 k := fun k hk => hp3.out k (.inl hk)
  refine sortedOn_join (m := mid) (fun i j h1 h2 h3 => by rw [o3 i (by omega), o3 j h3]; exact hsorted2 i j h1 h2 h3) hsorted3 ?_
  intro i j h1 h2 h3 h4
  rw [o3 i h2]
  obtain ⟨i', a1, a2, a3⟩ := hp2.from' i h1 h2
  obtain ⟨j', b1, b2, b3⟩ := hp3.from' j h3 h4
  rw [a3, b3, o2 j' b1]
  exact cross1 i' j' a1 a2 b1 b2
omit O in
/-- What moving the element at a rightwards to i - 1 leaves. -/
theorem merge_one_left {d d' : List Int} {a b i : Nat} (h1 : a < i) (h2 : i ≤ b) (hs : SortedOn le d (a + 1) b)
    (hlo : ∀ c, a + 1 ≤ c → c < i → le (gt d c) (gt d a)) (hhi : ∀ c, i ≤ c → c < b → le (gt d a) (gt d c))
    (he : ∀ x, gt d' x = if a ≤ x ∧ x < i - 1 then gt d (x + 1) else if x = i - 1 then gt d a else gt d x) : SortedOn le d' a b := by
  intro x y hx hxy hy
  rw [he x, he y]
  by_cases x1 : x < i - 1
  · rw [if_pos ⟨hx, x1⟩]
    by_cases y1 : y < i - 1
    · rw [if_pos (by omega)]; exact hs _ _ (by omega) (by omega) (by omega)
    · rw [if_neg (by omega)]
      by_cases y2 : y = i - 1
      · rw [if_pos y2]; exact hlo _ (by omega) (by omega)
      · rw [if_neg y2]; exact hs _ _ (by omega) (by omega) hy
  · rw [if_neg (by omega), if_neg (show ¬ (a ≤ y ∧ y < i - 1) by omega), if_neg (show ¬ y = i - 1 by omega)]
    by_cases x2 : x = i - 1
    · rw [if_pos x2]; exact hhi _ (by omega) hy
    · rw [if_neg x2]; exact hs _ _ (by omega) hxy hy
/-- What moving the element at m leftwards to i leaves (m the last one). -/
theorem merge_one_right {d d' : List Int} {a m i : Nat} (h1 : a ≤ i) (h2 : i ≤ m) (hs : SortedOn le d a m)
    (hlo : ∀ c, a ≤ c → c < i → le (gt d c) (gt d m)) (hhi : ∀ c, i ≤ c → c < m → le (gt d m) (gt d c))
    (he : ∀ x, gt d' x = if i < x ∧ x ≤ m then gt d (x - 1) else if x = i then gt d m else gt d x) : SortedOn le d' a (m + 1) := by
  intro x y hx hxy hy
  rw [he x, he y]
  by_cases x1 : x < i
  · rw [if_neg (by omega), if_neg (by omega)]
    by_cases y1 : i < y
    · rw [if_pos (by omega)]; exact SortedOn.le' O hs hx (by omega) (by omega)
    · rw [if_neg (by omega)]
      by_cases y2 : y = i
      · rw [if_pos y2]; exact hlo _ hx x1
      · rw [if_neg y2]; exact hs _ _ hx hxy (by omega)
  · rw [if_pos (show i < y ∧ y ≤ m by omega)]
    by_cases x2 : x = i
    · rw [if_neg (by omega), if_pos x2]; exact hhi _ (by omega) (by omega)
    · rw [if_pos (by omega)]; exact hs _ _ (by omega) (by omega) (by omega)
/-- The inner loop of insertion sort: a..i sorted but for the element at j. -/
def Ins (le : Int → Int → Prop) (d : List Int) (a i j : Nat) : Prop :=
  (∀ x y, a ≤ x → x < y → y ≤ i → x ≠ j → y ≠ j → le (gt d x) (gt d y)) ∧ ∀ y, j < y → y ≤ i → le (gt d j) (gt d y)
omit O in
theorem Ins.start {d : List Int} {a i : Nat} (h : SortedOn le d a i) : Ins le d a i i := ⟨fun x y h1 h2 h3 h4 h5 => h x y h1 h2 (by omega), fun y h1 h2 => by omega⟩
omit O in
theorem Ins.step {d : List Int} {a i j : Nat} (h : Ins le d a i j) (hj : a < j) (hji : j ≤ i) (hlen : i < d.length) (hlt : le (gt d j) (gt d (j - 1))) : Ins le (swapL d j (j - 1)) a i (j - 1) := by
  obtain ⟨h1, h2⟩ := h
  refine ⟨fun x y a1 a2 a3 a4 a5 => ?_, fun y a1 a2 => ?_⟩
  · rw [gt_swapL _ _ _ (by omega) (by omega), gt_swapL _ _ _ (by omega) (by omega), if_neg a4, if_neg a5]
    by_cases x1 : x = j
    · rw [if_pos x1, if_neg (show ¬ y = j by omega)]; exact h1 _ _ (by omega) (by omega) a3 (by omega) (by omega)
    · rw [if_neg x1]
      by_cases y1 : y = j
      · rw [if_pos y1]; exact h1 _ _ a1 (by omega) (by omega) (by omega) (by omega)
      · rw [if_neg y1]; exact h1 _ _ a1 a2 a3 x1 y1
  · rw [gt_swapL _ _ _ (by omega) (by omega), gt_swapL _ _ _ (by omega) (by omega), if_pos rfl, if_neg (show ¬ y = j - 1 by omega)]
    by_cases y1 : y = j
    · rw [if_pos y1]; exact hlt
    · rw [if_neg y1]; exact h2 y (by omega) a2
theorem Ins.done {d : List Int} {a i j : Nat} (h : Ins le d a i j) (hj : a ≤ j) (hji : j ≤ i) (hlast : a < j → le (gt d (j - 1)) (gt d j)) : SortedOn le d a (i + 1) := by
  obtain ⟨h1, h2⟩ := h
  intro x y a1 a2 a3
  by_cases x1 : x = j
  · subst x1; exact h2 y a2 (by omega)
  · by_cases y1 : y = j
    · subst y1
      by_cases x2 : x = y - 1
      · subst x2; exact hlast (by omega)
      · exact O.trans (h1 x (y - 1) a1 (by omega) (by omega) x1 (by omega)) (hlast (by omega))
    · exact h1 x y a1 a2 (by omega) x1 y1
end
end Go.Proofs.YtnleljpebnnhfaaGreatDoor

/- A part of the proof. Conditions: none. -/
import Derived.Test.YtioiigabeoaneaaRQ4
import Derived.Test.YtioiigabeoaneaaRQ6
import Derived.Test.YtioiigabeoaneaaRQ5
namespace Go.Proofs.Ytioiigabeoaneaa
open Go V
set_option maxRecDepth 100000
set_option maxHeartbeats 4000000
def p7_1 {ρ:Type} (fail:ρ) (fu:Nat) (K0:Int→Int→Int→Int→Int→Int→Int→Int→Int→Int→Int→ByteArray→ByteArray→Int→Int→ByteArray→EL→EL→Int→Int→ByteArray→EL→EL→EL→Int→Int→ByteArray→EL→EL→Int→Int→ByteArray→EL→EL→Int→ρ) (rec1:Int→Int→Int→Int→Int→Int→Int→Int→Int→Int→Int→ByteArray→ByteArray→Int→Int→ByteArray→EL→EL→Int→Int→ByteArray→EL→EL→EL→Int→Int→ByteArray→EL→EL→Int→Int→ByteArray→EL→EL→EL→Int→Int→Int→ρ) (z6 z43 j45 j46 j47 j48 j49 j50 j51 j52 j53 j54:Int) (j55 j56:ByteArray) (j57 j58:Int) (j59:ByteArray) (j60 j61:EL) (j62 j63:Int) (j64:ByteArray) (j65 j66 j67:EL) (j68 j69:Int) (j70:ByteArray) (j71 j72:EL) (j73 j74:Int) (j75:ByteArray) (j76 j77 j78:EL) (j79 j80:Int):ρ :=
 rec1 z6 j45 j46 j47 j48 j49 j50 j51 j52 j53 j54 j55 j56 j57 j58 j59 j60 j61 j62 j63 j64 j65 j66 j67 j68 j69 j70 j71 j72 j73 j74 j75 j76 j77 j78 j79 j80 (z0c .add .i64 z43 1)
def p7_2 {ρ:Type} (fail:ρ) (fu:Nat) (K0:Int→Int→Int→Int→Int→Int→Int→Int→Int→Int→Int→ByteArray→ByteArray→Int→Int→ByteArray→EL→EL→Int→Int→ByteArray→EL→EL→EL→Int→Int→ByteArray→EL→EL→Int→Int→ByteArray→EL→EL→Int→ρ) (rec1:Int→Int→Int→Int→Int→Int→Int→Int→Int→Int→Int→ByteArray→ByteArray→Int→Int→ByteArray→EL→EL→Int→Int→ByteArray→EL→EL→EL→Int→Int→ByteArray→EL→EL→Int→Int→ByteArray→EL→EL→EL→Int→Int→Int→ρ) (z6 z8 z9 z43 j89 j90 j91 j92 j93 j94 j95 j96:Int) (j97 j98:ByteArray) (j99 j100:Int) (j101:ByteArray) (j102 j103:EL) (j104 j105:Int) (j106:ByteArray) (j107 j108 j109:EL) (j110 j111:Int) (j112:ByteArray) (j113 j114:EL) (j115 j116:Int) (j117:ByteArray) (j118 j119 j120:EL) (j121 j122:Int):ρ :=
 p7_1 fail fu K0 rec1 z6 z43 j89 z8 z9 j90 j91 j92 j93 j94 j95 j96 j97 j98 j99 j100 j101 j102 j103 j104 j105 j106 j107 j108 j109 j110 j111 j112 j113 j114 j115 j116 j117 j118 j119 j120 j121 j122
def p7_3 {ρ:Type} (fail:ρ) (fu:Nat) (K0:Int→Int→Int→Int→Int→Int→Int→Int→Int→Int→Int→ByteArray→ByteArray→Int→Int→ByteArray→EL→EL→Int→Int→ByteArray→EL→EL→EL→Int→Int→ByteArray→EL→EL→Int→Int→ByteArray→EL→EL→Int→ρ) (rec1:Int→Int→Int→Int→Int→Int→Int→Int→Int→Int→Int→ByteArray→ByteArray→Int→Int→ByteArray→EL→EL→Int→Int→ByteArray→EL→EL→EL→Int→Int→ByteArray→EL→EL→Int→Int→ByteArray→EL→EL→EL→Int→Int→Int→ρ) (z6 z8 z9 z10 z11 z43 j128 j129 j130 j131 j132 j133:Int) (j134 j135:ByteArray) (j136 j137:Int) (j138:ByteArray) (j139 j140:EL) (j141 j142:Int) (j143:ByteArray) (j144 j145 j146:EL) (j147 j148:Int) (j149:ByteArray) (j150 j151:EL) (j152 j153:Int) (j154:ByteArray) (j155 j156 j157:EL) (j158 j159:Int):ρ :=
 p7_2 fail fu K0 rec1 z6 z8 z9 z43 j128 z10 z11 j129 j130 j131 j132 j133 j134 j135 j136 j137 j138 j139 j140 j141 j142 j143 j144 j145 j146 j147 j148 j149 j150 j151 j152 j153 j154 j155 j156 j157 j158 j159
def p7_4 {ρ:Type} (fail:ρ) (fu:Nat) (K0:Int→Int→Int→Int→Int→Int→Int→Int→Int→Int→Int→ByteArray→ByteArray→Int→Int→ByteArray→EL→EL→Int→Int→ByteArray→EL→EL→EL→Int→Int→ByteArray→EL→EL→Int→Int→ByteArray→EL→EL→Int→ρ) (rec1:Int→Int→Int→Int→Int→Int→Int→Int→Int→Int→Int→ByteArray→ByteArray→Int→Int→ByteArray→EL→EL→Int→Int→ByteArray→EL→EL→EL→Int→Int→ByteArray→EL→EL→Int→Int→ByteArray→EL→EL→EL→Int→Int→Int→ρ) (z6 z8 z9 z10 z11 z12 z13 z43 j165 j166 j167 j168:Int) (j169 j170:ByteArray) (j171 j172:Int) (j173:ByteArray) (j174 j175:EL) (j176 j177:Int) (j178:ByteArray) (j179 j180 j181:EL) (j182 j183:Int) (j184:ByteArray) (j185 j186:EL) (j187 j188:Int) (j189:ByteArray) (j190 j191 j192:EL) (j193 j194:Int):ρ :=
 p7_3 fail fu K0 rec1 z6 z8 z9 z10 z11 z43 j165 z12 z13 j166 j167 j168 j169 j170 j171 j172 j173 j174 j175 j176 j177 j178 j179 j180 j181 j182 j183 j184 j185 j186 j187 j188 j189 j190 j191 j192 j193 j194
def p7_5 {ρ:Type} (fail:ρ) (fu:Nat) (K0:Int→Int→Int→Int→Int→Int→Int→Int→Int→Int→Int→ByteArray→ByteArray→Int→Int→ByteArray→EL→EL→Int→Int→ByteArray→EL→EL→EL→Int→Int→ByteArray→EL→EL→Int→Int→ByteArray→EL→EL→Int→ρ) (rec1:Int→Int→Int→Int→Int→Int→Int→Int→Int→Int→Int→ByteArray→ByteArray→Int→Int→ByteArray→EL→EL→Int→Int→ByteArray→EL→EL→EL→Int→Int→ByteArray→EL→EL→Int→Int→ByteArray→EL→EL→EL→Int→Int→Int→ρ) (z6 z8 z9 z10 z11 z12 z13 z14 z15 z16:Int) (z18:ByteArray) (z19 z20:Int) (z21:ByteArray) (z22 z23:EL) (z24 z25:Int) (z26:ByteArray) (z27 z28 z29:EL) (z43 j214:Int) (j215:ByteArray) (j216 j217:Int) (j218:ByteArray) (j219 j220:EL) (j221 j222:Int) (j223:ByteArray) (j224 j225 j226:EL) (j227 j228:Int):ρ :=
 p7_4 fail fu K0 rec1 z6 z8 z9 z10 z11 z12 z13 z43 j214 z14 z15 z16 j215 z18 z19 z20 z21 z22 z23 z24 z25 z26 z27 z28 z29 j216 j217 j218 j219 j220 j221 j222 j223 j224 j225 j226 j227 j228
def p7_6 {ρ:Type} (fail:ρ) (fu:Nat) (K0:Int→Int→Int→Int→Int→Int→Int→Int→Int→Int→Int→ByteArray→ByteArray→Int→Int→ByteArray→EL→EL→Int→Int→ByteArray→EL→EL→EL→Int→Int→ByteArray→EL→EL→Int→Int→ByteArray→EL→EL→Int→ρ) (rec1:Int→Int→Int→Int→Int→Int→Int→Int→Int→Int→Int→ByteArray→ByteArray→Int→Int→ByteArray→EL→EL→Int→Int→ByteArray→EL→EL→EL→Int→Int→ByteArray→EL→EL→Int→Int→ByteArray→EL→EL→EL→Int→Int→Int→ρ) (z6 z7 z8 z9 z10 z11 z12 z13 z14 z15 z16:Int) (z18:ByteArray) (z19 z20:Int) (z21:ByteArray) (z22 z23:EL) (z24 z25:Int) (z26:ByteArray) (z27 z28 z29:EL) (z43:Int) (j233:ByteArray) (j234 j235:Int) (j236:ByteArray) (j237 j238:EL) (j239 j240:Int) (j241:ByteArray) (j242 j243 j244:EL) (j245 j246:Int):ρ :=
 p7_5 fail fu K0 rec1 z6 z8 z9 z10 z11 z12 z13 z14 z15 z16 z18 z19 z20 z21 z22 z23 z24 z25 z26 z27 z28 z29 z43 z7 j233 j234 j235 j236 j237 j238 j239 j240 j241 j242 j243 j244 j245 j246
def p7_7 {ρ:Type} (fail:ρ) (fu:Nat) (K0:Int→Int→Int→Int→Int→Int→Int→Int→Int→Int→Int→ByteArray→ByteArray→Int→Int→ByteArray→EL→EL→Int→Int→ByteArray→EL→EL→EL→Int→Int→ByteArray→EL→EL→Int→Int→ByteArray→EL→EL→Int→ρ) (rec1:Int→Int→Int→Int→Int→Int→Int→Int→Int→Int→Int→ByteArray→ByteArray→Int→Int→ByteArray→EL→EL→Int→Int→ByteArray→EL→EL→EL→Int→Int→ByteArray→EL→EL→Int→Int→ByteArray→EL→EL→EL→Int→Int→Int→ρ) (z6 z7 z8 z9 z10 z11 z12 z13 z14 z15 z16:Int) (z18:ByteArray) (z19 z20:Int) (z21:ByteArray) (z22 z23:EL) (z24 z25:Int) (z26:ByteArray) (z27 z28 z29:EL) (z30 z31:Int) (z32:ByteArray) (z33 z34:EL) (z43:Int) (j255:ByteArray) (j256 j257:Int) (j258:ByteArray) (j259 j260 j261:EL) (j262 j263:Int):ρ :=
 p7_6 fail fu K0 rec1 z6 z7 z8 z9 z10 z11 z12 z13 z14 z15 z16 z18 z19 z20 z21 z22 z23 z24 z25 z26 z27 z28 z29 z43 j255 z30 z31 z32 z33 z34 j256 j257 j258 j259 j260 j261 j262 j263
def p7_8 {ρ:Type} (fail:ρ) (fu:Nat) (K0:Int→Int→Int→Int→Int→Int→Int→Int→Int→Int→Int→ByteArray→ByteArray→Int→Int→ByteArray→EL→EL→Int→Int→ByteArray→EL→EL→EL→Int→Int→ByteArray→EL→EL→Int→Int→ByteArray→EL→EL→Int→ρ) (rec1:Int→Int→Int→Int→Int→Int→Int→Int→Int→Int→Int→ByteArray→ByteArray→Int→Int→ByteArray→EL→EL→Int→Int→ByteArray→EL→EL→EL→Int→Int→ByteArray→EL→EL→Int→Int→ByteArray→EL→EL→EL→Int→Int→Int→ρ) (z6 z7 z8 z9 z10 z11 z12 z13 z14 z15 z16:Int) (z18:ByteArray) (z19 z20:Int) (z21:ByteArray) (z22 z23:EL) (z24 z25:Int) (z26:ByteArray) (z27 z28 z29:EL) (z30 z31:Int) (z32:ByteArray) (z33 z34:EL) (z35 z36:Int) (z37:ByteArray) (z38 z39:EL) (z43:Int) (j272:ByteArray) (j273:EL) (j274 j275:Int):ρ :=
 p7_7 fail fu K0 rec1 z6 z7 z8 z9 z10 z11 z12 z13 z14 z15 z16 z18 z19 z20 z21 z22 z23 z24 z25 z26 z27 z28 z29 z30 z31 z32 z33 z34 z43 j272 z35 z36 z37 z38 z39 j273 j274 j275
def p7_9 {ρ:Type} (fail:ρ) (fu:Nat) (K0:Int→Int→Int→Int→Int→Int→Int→Int→Int→Int→Int→ByteArray→ByteArray→Int→Int→ByteArray→EL→EL→Int→Int→ByteArray→EL→EL→EL→Int→Int→ByteArray→EL→EL→Int→Int→ByteArray→EL→EL→Int→ρ) (rec1:Int→Int→Int→Int→Int→Int→Int→Int→Int→Int→Int→ByteArray→ByteArray→Int→Int→ByteArray→EL→EL→Int→Int→ByteArray→EL→EL→EL→Int→Int→ByteArray→EL→EL→Int→Int→ByteArray→EL→EL→EL→Int→Int→Int→ρ) (x0:EL) (y4:ByteArray) (z6 z7 z8 z9 z10 z11 z12 z13 z14 z15 z16:Int) (z17 z18:ByteArray) (z19 z20:Int) (z21:ByteArray) (z22 z23:EL) (z24 z25:Int) (z26:ByteArray) (z27 z28 z29:EL) (z30 z31:Int) (z32:ByteArray) (z33 z34:EL) (z35 z36:Int) (z37:ByteArray) (z38 z39 z40:EL) (z41 z42 z43:Int) (j44:Bool):ρ :=
 bif j44 then (gd ((0:Int)≤z43) fail (gd ((z43:Int) < (y4.size:Nat)) fail (bif (z0a .eql ((List.getD y4.data.toList (z43:Int).toNat 0).toNat:Nat) 102) then (p23 fail fu (fun y81 y82 y83 y84=>p23 fail fu (fun y85 y86 y87 y88=>p7_1 fail fu K0 rec1 z6 z43 z7 y81 y85 z10 z11 z12 z13 z14 z15 z16 z17 z18 z19 z20 z21 z22 z23 z24 z25 z26 z27 z28 z29 z30 z31 z32 z33 z34 z35 z36 z37 z38 z39 y86 y87 y88) y82 y83 y84) z40 z41 z42) else (bif (z0a .eql ((List.getD y4.data.toList (z43:Int).toNat 0).toNat:Nat) 104) then (p24 fail fu (fun y123 y124 y125 y126 y127=>p7_2 fail fu K0 rec1 z6 z8 z9 z43 z7 y123 y124 z12 z13 z14 z15 z16 z17 z18 z19 z20 z21 z22 z23 z24 z25 z26 z27 z28 z29 z30 z31 z32 z33 z34 z35 z36 z37 z38 z39 y125 y126 y127) z40 z41 z42) else (bif (z0a .eql ((List.getD y4.data.toList (z43:Int).toNat 0).toNat:Nat) 111) then (p24 fail fu (fun y160 y161 y162 y163 y164=>p7_3 fail fu K0 rec1 z6 z8 z9 z10 z11 z43 z7 y160 y161 z14 z15 z16 z17 z18 z19 z20 z21 z22 z23 z24 z25 z26 z27 z28 z29 z30 z31 z32 z33 z34 z35 z36 z37 z38 z39 y162 y163 y164) z40 z41 z42) else (bif (z0a .eql ((List.getD y4.data.toList (z43:Int).toNat 0).toNat:Nat) 100) then (p25 fail fu (fun y195 y196 y197 y198 y199 y200 y201 y202 y203 y204 y205 y206 y207 y208 y209 y210 y211 y212 y213=>p7_4 fail fu K0 rec1 z6 z8 z9 z10 z11 z12 z13 z43 z7 y195 y196 y197 y198 y199 y200 y201 y202 y203 y204 y205 y206 y207 y208 y209 y210 z30 z31 z32 z33 z34 z35 z36 z37 z38 z39 y211 y212 y213) z40 z41 z42) else (bif (z0a .eql ((List.getD y4.data.toList (z43:Int).toNat 0).toNat:Nat) 112) then (p23 fail fu (fun y229 y230 y231 y232=>p7_5 fail fu K0 rec1 z6 z8 z9 z10 z11 z12 z13 z14 z15 z16 z18 z19 z20 z21 z22 z23 z24 z25 z26 z27 z28 z29 z43 y229 z17 z30 z31 z32 z33 z34 z35 z36 z37 z38 z39 y230 y231 y232) z40 z41 z42) else (bif (z0a .eql ((List.getD y4.data.toList (z43:Int).toNat 0).toNat:Nat) 116) then (p26 fail fu (fun y247 y248 y249 y250 y251 y252 y253 y254=>p7_6 fail fu K0 rec1 z6 z7 z8 z9 z10 z11 z12 z13 z14 z15 z16 z18 z19 z20 z21 z22 z23 z24 z25 z26 z27 z28 z29 z43 z17 y247 y248 y249 y250 y251 z35 z36 z37 z38 z39 y252 y253 y254) z40 z41 z42) else (bif (z0a .eql ((List.getD y4.data.toList (z43:Int).toNat 0).toNat:Nat) 121) then (p26 fail fu (fun y264 y265 y266 y267 y268 y269 y270 y271=>p7_7 fail fu K0 rec1 z6 z7 z8 z9 z10 z11 z12 z13 z14 z15 z16 z18 z19 z20 z21 z22 z23 z24 z25 z26 z27 z28 z29 z30 z31 z32 z33 z34 z43 z17 y264 y265 y266 y267 y268 y269 y270 y271) z40 z41 z42) else (bif (z0a .eql ((List.getD y4.data.toList (z43:Int).toNat 0).toNat:Nat) 110) then (p27 fail fu (fun y276 y277 y278 y279=>p7_8 fail fu K0 rec1 z6 z7 z8 z9 z10 z11 z12 z13 z14 z15 z16 z18 z19 z20 z21 z22 z23 z24 z25 z26 z27 z28 z29 z30 z31 z32 z33 z34 z35 z36 z37 z38 z39 z43 y276 y277 y278 y279) z40 z41 z42) else (p7_8 fail fu K0 rec1 z6 z7 z8 z9 z10 z11 z12 z13 z14 z15 z16 z18 z19 z20 z21 z22 z23 z24 z25 z26 z27 z28 z29 z30 z31 z32 z33 z34 z35 z36 z37 z38 z39 z43 z17 z40 z41 z42))))))))))) else (bif (z0a .neq z42 0) then (K0 0 0 0 0 0 0 0 0 0 0 0 ⟨#[]⟩ ⟨#[]⟩ 0 0 ⟨#[]⟩ nilE nilE 0 0 ⟨#[]⟩ nilE nilE nilE 0 0 ⟨#[]⟩ nilE nilE 0 0 ⟨#[]⟩ nilE nilE z42) else (bif (z0a .lss z41 ((x0.length:Nat):Int)) then (K0 0 0 0 0 0 0 0 0 0 0 0 ⟨#[]⟩ ⟨#[]⟩ 0 0 ⟨#[]⟩ nilE nilE 0 0 ⟨#[]⟩ nilE nilE nilE 0 0 ⟨#[]⟩ nilE nilE 0 0 ⟨#[]⟩ nilE nilE 5) else (K0 z6 z7 z8 z9 z10 z11 z12 z13 z14 z15 z16 z17 z18 z19 z20 z21 z22 z23 z24 z25 z26 z27 z28 z29 z30 z31 z32 z33 z34 z35 z36 z37 z38 z39 0)))
def p7_10 {ρ:Type} (fail:ρ) (fu:Nat) (K0:Int→Int→Int→Int→Int→Int→Int→Int→Int→Int→Int→ByteArray→ByteArray→Int→Int→ByteArray→EL→EL→Int→Int→ByteArray→EL→EL→EL→Int→Int→ByteArray→EL→EL→Int→Int→ByteArray→EL→EL→Int→ρ) (rec1:Int→Int→Int→Int→Int→Int→Int→Int→Int→Int→Int→ByteArray→ByteArray→Int→Int→ByteArray→EL→EL→Int→Int→ByteArray→EL→EL→EL→Int→Int→ByteArray→EL→EL→Int→Int→ByteArray→EL→EL→EL→Int→Int→Int→ρ) (x0:EL) (y4:ByteArray) (z6 z7 z8 z9 z10 z11 z12 z13 z14 z15 z16:Int) (z17 z18:ByteArray) (z19 z20:Int) (z21:ByteArray) (z22 z23:EL) (z24 z25:Int) (z26:ByteArray) (z27 z28 z29:EL) (z30 z31:Int) (z32:ByteArray) (z33 z34:EL) (z35 z36:Int) (z37:ByteArray) (z38 z39 z40:EL) (z41 z42 z43:Int):ρ :=
 bif (z0a .lss z43 ((y4.size:Nat):Int)) then (p7_9 fail fu K0 rec1 x0 y4 z6 z7 z8 z9 z10 z11 z12 z13 z14 z15 z16 z17 z18 z19 z20 z21 z22 z23 z24 z25 z26 z27 z28 z29 z30 z31 z32 z33 z34 z35 z36 z37 z38 z39 z40 z41 z42 z43 (z0a .eql z42 0)) else (p7_9 fail fu K0 rec1 x0 y4 z6 z7 z8 z9 z10 z11 z12 z13 z14 z15 z16 z17 z18 z19 z20 z21 z22 z23 z24 z25 z26 z27 z28 z29 z30 z31 z32 z33 z34 z35 z36 z37 z38 z39 z40 z41 z42 z43 false)
def p7_10L {ρ:Type} (fail:ρ) (fu:Nat) (K0:Int→Int→Int→Int→Int→Int→Int→Int→Int→Int→Int→ByteArray→ByteArray→Int→Int→ByteArray→EL→EL→Int→Int→ByteArray→EL→EL→EL→Int→Int→ByteArray→EL→EL→Int→Int→ByteArray→EL→EL→Int→ρ) (x0:EL) (y4:ByteArray):Nat→Int→Int→Int→Int→Int→Int→Int→Int→Int→Int→Int→ByteArray→ByteArray→Int→Int→ByteArray→EL→EL→Int→Int→ByteArray→EL→EL→EL→Int→Int→ByteArray→EL→EL→Int→Int→ByteArray→EL→EL→EL→Int→Int→Int→ρ
 | 0,_,_,_,_,_,_,_,_,_,_,_,_,_,_,_,_,_,_,_,_,_,_,_,_,_,_,_,_,_,_,_,_,_,_,_,_,_,_=>fail
 | n + 1,z6,z7,z8,z9,z10,z11,z12,z13,z14,z15,z16,z17,z18,z19,z20,z21,z22,z23,z24,z25,z26,z27,z28,z29,z30,z31,z32,z33,z34,z35,z36,z37,z38,z39,z40,z41,z42,z43=>p7_10 fail fu K0 (p7_10L fail fu K0 x0 y4 n) x0 y4 z6 z7 z8 z9 z10 z11 z12 z13 z14 z15 z16 z17 z18 z19 z20 z21 z22 z23 z24 z25 z26 z27 z28 z29 z30 z31 z32 z33 z34 z35 z36 z37 z38 z39 z40 z41 z42 z43
def p7 {ρ:Type} (fail:ρ) (fu:Nat) (K0:Int→Int→Int→Int→Int→Int→Int→Int→Int→Int→Int→ByteArray→ByteArray→Int→Int→ByteArray→EL→EL→Int→Int→ByteArray→EL→EL→EL→Int→Int→ByteArray→EL→EL→Int→Int→ByteArray→EL→EL→Int→ρ) (x0:EL):ρ :=
 p21 fail fu (fun y1 y2 y3=>bif (z0a .neq y3 0) then (K0 0 0 0 0 0 0 0 0 0 0 0 ⟨#[]⟩ ⟨#[]⟩ 0 0 ⟨#[]⟩ nilE nilE 0 0 ⟨#[]⟩ nilE nilE nilE 0 0 ⟨#[]⟩ nilE nilE 0 0 ⟨#[]⟩ nilE nilE y3) else (bif (z0a .gtr y1 100) then (K0 0 0 0 0 0 0 0 0 0 0 0 ⟨#[]⟩ ⟨#[]⟩ 0 0 ⟨#[]⟩ nilE nilE 0 0 ⟨#[]⟩ nilE nilE nilE 0 0 ⟨#[]⟩ nilE nilE 0 0 ⟨#[]⟩ nilE nilE 5) else (p22 fail fu (fun y4 y5=>bif (!y5) then (K0 0 0 0 0 0 0 0 0 0 0 0 ⟨#[]⟩ ⟨#[]⟩ 0 0 ⟨#[]⟩ nilE nilE 0 0 ⟨#[]⟩ nilE nilE nilE 0 0 ⟨#[]⟩ nilE nilE 0 0 ⟨#[]⟩ nilE nilE 5) else (p7_10L fail fu K0 x0 y4 fu (IntKind.i64.wrap y1) 0 0 0 0 0 0 0 0 0 0 ⟨#[]⟩ ⟨#[]⟩ 0 0 ⟨#[]⟩ nilE nilE 0 0 ⟨#[]⟩ nilE nilE nilE 0 0 ⟨#[]⟩ nilE nilE 0 0 ⟨#[]⟩ nilE nilE x0 y2 0 0)) (IntKind.i64.wrap y1)))) x0
theorem z0n (bs:List UInt8):z0i bs=rdHd bs:=by
 unfold z0i rdHd bd z4i
 by_cases h8:bs.length < 8
 ·rw [if_pos h8,if_pos (by omega)]
 ·rw [if_neg h8]
  dsimp only
  by_cases h16:bs.length < 16
  ·rw [if_pos (by rw [List.length_drop];omega),if_pos h16]
  ·rw [if_neg (by rw [List.length_drop];omega),if_neg h16]
   dsimp only
   rw [List.drop_drop];rfl
theorem z0f {ρ:Type} {α:Type} {K:RK35 ρ} {c:Bool} {z:α} {f:List UInt8→Except Int (α × List UInt8)} {g:α→List UInt8→Except Int (Rq × List UInt8)} {bs:List UInt8} {r:ρ} (hc:c=false) (h:r=rqEnd K (g z bs)):r=rqEnd K (bd (rdIf c z f) g bs):=by
 subst hc;exact h
theorem z1c {ρ:Type} {α:Type} {K:RK35 ρ} {c:Bool} {z:α} {f:List UInt8→Except Int (α × List UInt8)} {g:α→List UInt8→Except Int (Rq × List UInt8)} {bs:List UInt8} {r:ρ} (hc:c=true)
  (h1:∀ a b,f bs=.ok (a,b)→r=rqEnd K (g a b)) (h2:∀ e,f bs=.error e→r=rqOut K rq0 e):r=rqEnd K (bd (rdIf c z f) g bs):=by
 subst hc;exact z8g K f g bs r h1 h2
section
variable {ρ:Type} (fail:ρ) (fu:Nat) (hfu:250≤fu) (K:RK35 ρ) (all:List UInt8) (hall:all.length≤4000)
def rLp (y4:ByteArray) (n:Nat) (q:Rq) (B:EL) (a e i:Int):ρ:=p7_10L fail fu K (encB all) y4 n (q.k:Nat) (q.pa:Nat) (q.fuel:Nat) (q.cells:Nat) (q.h.1:Nat) (q.h.2:Nat) (q.o.1:Nat) (q.o.2:Nat) q.d.k q.d.pa q.d.ct q.nam q.d.fam q.d.ty.k q.d.ty.n q.d.ty.nm (Lv.rows q.d.ty.ls) (Tm.rows q.d.ty.args) q.d.val.k q.d.val.n q.d.val.nm (Lv.rows q.d.val.ls) (Tm.rows q.d.val.args) (q.d.cs.map ctRow) q.t.k q.t.n q.t.nm (Lv.rows q.t.ls) (Tm.rows q.t.args) q.ty.k q.ty.n q.ty.nm (Lv.rows q.ty.ls) (Tm.rows q.ty.args) B a e i
theorem lE0 (y4:ByteArray) (n:Nat) (x:Int) (x1 x2 x3 x4 x5 x6 x7 x8 x9 x10:Int) (s1 s2:ByteArray) (t1 t2:Int) (t3:ByteArray) (t4 t5:EL) (v1 v2:Int) (v3:ByteArray) (v4 v5 cs:EL) (a1 a2:Int) (a3:ByteArray) (a4 a5:EL) (b1 b2:Int) (b3:ByteArray) (b4 b5:EL) (B:EL) (a e i:Int) (he:e≠0) :
  p7_10L fail fu K (encB all) y4 (n + 1) x x1 x2 x3 x4 x5 x6 x7 x8 x9 x10 s1 s2 t1 t2 t3 t4 t5 v1 v2 v3 v4 v5 cs a1 a2 a3 a4 a5 b1 b2 b3 b4 b5 B a e i=rqOut K rq0 e:=by
 rw [p7_10L,p7_10,eqlF he,p7_9,cond_false,neqT he,cond_true]
 cases z0a .lss i ((y4.size:Nat):Int)<;>rfl
include hall in
theorem lEnd (y4:ByteArray) (n:Nat) (q:Rq) (bs:List UInt8) (hs:Sfx all bs) (i:Int) (hi:((y4.size:Nat):Int)≤i):rLp fail fu K all y4 (n + 1) q (encB all) (atR all bs) 0 i=rqEnd K (.ok (q,bs)):=by
 have hl:=hs.len
 have hat:atR all bs=((all.length - bs.length:Nat):Int):=rfl
 rw [rLp,p7_10L,p7_10,lssF hi,cond_false,p7_9,cond_false,neqF rfl,cond_false,z0h]
 cases bs with
 | nil=>rw [lssF (by rw [hat,List.length_nil];omega),cond_false];rfl
 | cons c bs=>rw [lssT (by rw [hat];rw [List.length_cons] at hl ⊢;omega),cond_true];rfl
include hfu hall
theorem w5t (y4:ByteArray) (n:Nat) (q:Rq) (bs:List UInt8) (hs:Sfx all bs) (i:Nat) (hlt:i < y4.size) (hc:((List.getD y4.data.toList (((i:Nat):Int)).toNat 0).toNat:Nat)=112) (hsz:y4.size≤10)  {v:Nat} {r:List UInt8} (hx:rdNum bs=.ok (v,r)):rLp fail fu K all y4 (n + 1) q (encB all) (atR all bs) 0 ((i:Nat):Int)=rLp fail fu K all y4 n {q with pa:=v} (encB all) (atR all r) 0 ((i + 1:Nat):Int):=by
 have hl:=hs.len
 have h1:=z2o (ρ:=ρ) fail fu all (by omega) (by omega) bs hs
 rw [hx] at h1
 dsimp only [KO6] at h1
 rw [rLp,p7_10L,p7_10,lssT (by omega),cond_true,eqlT rfl,p7_9,cond_true,gd_y (by omega),gd_y (by omega),eqlF (by omega),cond_false,eqlF (by omega),cond_false,eqlF (by omega),cond_false,eqlF (by omega),cond_false,eqlT (by omega),cond_true]
 rw [h1,p7_5,p7_4,p7_3,p7_2,p7_1,show z0c .add .i64 ((i:Nat):Int) 1=((i + 1:Nat):Int) from (addZ (by omega) (by omega)).trans (by omega)]
 rfl
theorem w5u (y4:ByteArray) (n:Nat) (q:Rq) (bs:List UInt8) (hs:Sfx all bs) (i:Nat) (hlt:i < y4.size) (hc:((List.getD y4.data.toList (((i:Nat):Int)).toNat 0).toNat:Nat)=112) (hsz:y4.size≤10) {e:Int} (hx:rdNum bs=.error e):rLp fail fu K all y4 (n + 2) q (encB all) (atR all bs) 0 ((i:Nat):Int)=rqOut K rq0 e:=by
 have hl:=hs.len
 have h1:=z2o (ρ:=ρ) fail fu all (by omega) (by omega) bs hs
 rw [hx] at h1
 obtain⟨he,a,h1⟩:=h1
 dsimp only at h1
 rw [rLp,p7_10L,p7_10,lssT (by omega),cond_true,eqlT rfl,p7_9,cond_true,gd_y (by omega),gd_y (by omega),eqlF (by omega),cond_false,eqlF (by omega),cond_false,eqlF (by omega),cond_false,eqlF (by omega),cond_false,eqlT (by omega),cond_true]
 rw [h1,p7_5,p7_4,p7_3,p7_2,p7_1]
 exact lE0 fail fu K all y4 n _ _ _ _ _ _ _ _ _ _ _ _ _ _ _ _ _ _ _ _ _ _ _ _ _ _ _ _ _ _ _ _ _ _ _ _ _ _ he
theorem w2u (y4:ByteArray) (n:Nat) (q:Rq) (bs:List UInt8) (hs:Sfx all bs) (i:Nat) (hlt:i < y4.size) (hc:((List.getD y4.data.toList (((i:Nat):Int)).toNat 0).toNat:Nat)=116) (hsz:y4.size≤10)  {v:Tm} {r:List UInt8} (hx:z0j bs=.ok (v,r)):rLp fail fu K all y4 (n + 1) q (encB all) (atR all bs) 0 ((i:Nat):Int)=rLp fail fu K all y4 n {q with t:=v} (encB all) (atR all r) 0 ((i + 1:Nat):Int):=by
 have hl:=hs.len
 have h1:=z4j (ρ:=ρ) fail fu all (by omega) (by omega) bs hs
 rw [hx] at h1
 dsimp only [TmO8] at h1
 rw [rLp,p7_10L,p7_10,lssT (by omega),cond_true,eqlT rfl,p7_9,cond_true,gd_y (by omega),gd_y (by omega),eqlF (by omega),cond_false,eqlF (by omega),cond_false,eqlF (by omega),cond_false,eqlF (by omega),cond_false,eqlF (by omega),cond_false,eqlT (by omega),cond_true]
 rw [h1,p7_6,p7_5,p7_4,p7_3,p7_2,p7_1,show z0c .add .i64 ((i:Nat):Int) 1=((i + 1:Nat):Int) from (addZ (by omega) (by omega)).trans (by omega)]
 rfl
theorem w2v (y4:ByteArray) (n:Nat) (q:Rq) (bs:List UInt8) (hs:Sfx all bs) (i:Nat) (hlt:i < y4.size) (hc:((List.getD y4.data.toList (((i:Nat):Int)).toNat 0).toNat:Nat)=116) (hsz:y4.size≤10) {e:Int} (hx:z0j bs=.error e):rLp fail fu K all y4 (n + 2) q (encB all) (atR all bs) 0 ((i:Nat):Int)=rqOut K rq0 e:=by
 have hl:=hs.len
 have h1:=z4j (ρ:=ρ) fail fu all (by omega) (by omega) bs hs
 rw [hx] at h1
 obtain⟨he,a,b,c,l,g,B,at',h1⟩:=h1
 dsimp only at h1
 rw [rLp,p7_10L,p7_10,lssT (by omega),cond_true,eqlT rfl,p7_9,cond_true,gd_y (by omega),gd_y (by omega),eqlF (by omega),cond_false,eqlF (by omega),cond_false,eqlF (by omega),cond_false,eqlF (by omega),cond_false,eqlF (by omega),cond_false,eqlT (by omega),cond_true]
 rw [h1,p7_6,p7_5,p7_4,p7_3,p7_2,p7_1]
 exact lE0 fail fu K all y4 n _ _ _ _ _ _ _ _ _ _ _ _ _ _ _ _ _ _ _ _ _ _ _ _ _ _ _ _ _ _ _ _ _ _ _ _ _ _ he
theorem w8k (y4:ByteArray) (n:Nat) (q:Rq) (bs:List UInt8) (hs:Sfx all bs) (i:Nat) (hlt:i < y4.size) (hc:((List.getD y4.data.toList (((i:Nat):Int)).toNat 0).toNat:Nat)=121) (hsz:y4.size≤10)  {v:Tm} {r:List UInt8} (hx:z0j bs=.ok (v,r)):rLp fail fu K all y4 (n + 1) q (encB all) (atR all bs) 0 ((i:Nat):Int)=rLp fail fu K all y4 n {q with ty:=v} (encB all) (atR all r) 0 ((i + 1:Nat):Int):=by
 have hl:=hs.len
 have h1:=z4j (ρ:=ρ) fail fu all (by omega) (by omega) bs hs
 rw [hx] at h1
 dsimp only [TmO8] at h1
 rw [rLp,p7_10L,p7_10,lssT (by omega),cond_true,eqlT rfl,p7_9,cond_true,gd_y (by omega),gd_y (by omega),eqlF (by omega),cond_false,eqlF (by omega),cond_false,eqlF (by omega),cond_false,eqlF (by omega),cond_false,eqlF (by omega),cond_false,eqlF (by omega),cond_false,eqlT (by omega),cond_true]
 rw [h1,p7_7,p7_6,p7_5,p7_4,p7_3,p7_2,p7_1,show z0c .add .i64 ((i:Nat):Int) 1=((i + 1:Nat):Int) from (addZ (by omega) (by omega)).trans (by omega)]
 rfl
theorem w8l (y4:ByteArray) (n:Nat) (q:Rq) (bs:List UInt8) (hs:Sfx all bs) (i:Nat) (hlt:i < y4.size) (hc:((List.getD y4.data.toList (((i:Nat):Int)).toNat 0).toNat:Nat)=121) (hsz:y4.size≤10) {e:Int} (hx:z0j bs=.error e):rLp fail fu K all y4 (n + 2) q (encB all) (atR all bs) 0 ((i:Nat):Int)=rqOut K rq0 e:=by
 have hl:=hs.len
 have h1:=z4j (ρ:=ρ) fail fu all (by omega) (by omega) bs hs
 rw [hx] at h1
 obtain⟨he,a,b,c,l,g,B,at',h1⟩:=h1
 dsimp only at h1
 rw [rLp,p7_10L,p7_10,lssT (by omega),cond_true,eqlT rfl,p7_9,cond_true,gd_y (by omega),gd_y (by omega),eqlF (by omega),cond_false,eqlF (by omega),cond_false,eqlF (by omega),cond_false,eqlF (by omega),cond_false,eqlF (by omega),cond_false,eqlF (by omega),cond_false,eqlT (by omega),cond_true]
 rw [h1,p7_7,p7_6,p7_5,p7_4,p7_3,p7_2,p7_1]
 exact lE0 fail fu K all y4 n _ _ _ _ _ _ _ _ _ _ _ _ _ _ _ _ _ _ _ _ _ _ _ _ _ _ _ _ _ _ _ _ _ _ _ _ _ _ he
theorem z6o (y4:ByteArray) (n:Nat) (q:Rq) (bs:List UInt8) (hs:Sfx all bs) (i:Nat) (hlt:i < y4.size) (hc:((List.getD y4.data.toList (((i:Nat):Int)).toNat 0).toNat:Nat)=104) (hsz:y4.size≤10)  {v1 v2:Nat} {r:List UInt8} (hx:rdHd bs=.ok ((v1,v2),r)):rLp fail fu K all y4 (n + 1) q (encB all) (atR all bs) 0 ((i:Nat):Int)=rLp fail fu K all y4 n {q with h:=(v1,v2)} (encB all) (atR all r) 0 ((i + 1:Nat):Int):=by
 have hl:=hs.len
 have h1:=z8f (ρ:=ρ) fail fu all hall (by omega) bs hs
 rw [hx] at h1
 dsimp only [HO6] at h1
 rw [rLp,p7_10L,p7_10,lssT (by omega),cond_true,eqlT rfl,p7_9,cond_true,gd_y (by omega),gd_y (by omega),eqlF (by omega),cond_false,eqlT (by omega),cond_true]
 rw [h1,p7_2,p7_1,show z0c .add .i64 ((i:Nat):Int) 1=((i + 1:Nat):Int) from (addZ (by omega) (by omega)).trans (by omega)]
 rfl
theorem z6p (y4:ByteArray) (n:Nat) (q:Rq) (bs:List UInt8) (hs:Sfx all bs) (i:Nat) (hlt:i < y4.size) (hc:((List.getD y4.data.toList (((i:Nat):Int)).toNat 0).toNat:Nat)=104) (hsz:y4.size≤10) {e:Int} (hx:rdHd bs=.error e):rLp fail fu K all y4 (n + 2) q (encB all) (atR all bs) 0 ((i:Nat):Int)=rqOut K rq0 e:=by
 have hl:=hs.len
 have h1:=z8f (ρ:=ρ) fail fu all hall (by omega) bs hs
 rw [hx] at h1
 obtain⟨he,a,h1⟩:=h1
 dsimp only at h1
 rw [rLp,p7_10L,p7_10,lssT (by omega),cond_true,eqlT rfl,p7_9,cond_true,gd_y (by omega),gd_y (by omega),eqlF (by omega),cond_false,eqlT (by omega),cond_true]
 rw [h1,p7_2,p7_1]
 exact lE0 fail fu K all y4 n _ _ _ _ _ _ _ _ _ _ _ _ _ _ _ _ _ _ _ _ _ _ _ _ _ _ _ _ _ _ _ _ _ _ _ _ _ _ he
theorem k2p (y4:ByteArray) (n:Nat) (q:Rq) (bs:List UInt8) (hs:Sfx all bs) (i:Nat) (hlt:i < y4.size) (hc:((List.getD y4.data.toList (((i:Nat):Int)).toNat 0).toNat:Nat)=111) (hsz:y4.size≤10)  {v1 v2:Nat} {r:List UInt8} (hx:rdHd bs=.ok ((v1,v2),r)):rLp fail fu K all y4 (n + 1) q (encB all) (atR all bs) 0 ((i:Nat):Int)=rLp fail fu K all y4 n {q with o:=(v1,v2)} (encB all) (atR all r) 0 ((i + 1:Nat):Int):=by
 have hl:=hs.len
 have h1:=z8f (ρ:=ρ) fail fu all hall (by omega) bs hs
 rw [hx] at h1
 dsimp only [HO6] at h1
 rw [rLp,p7_10L,p7_10,lssT (by omega),cond_true,eqlT rfl,p7_9,cond_true,gd_y (by omega),gd_y (by omega),eqlF (by omega),cond_false,eqlF (by omega),cond_false,eqlT (by omega),cond_true]
 rw [h1,p7_3,p7_2,p7_1,show z0c .add .i64 ((i:Nat):Int) 1=((i + 1:Nat):Int) from (addZ (by omega) (by omega)).trans (by omega)]
 rfl
theorem k2q (y4:ByteArray) (n:Nat) (q:Rq) (bs:List UInt8) (hs:Sfx all bs) (i:Nat) (hlt:i < y4.size) (hc:((List.getD y4.data.toList (((i:Nat):Int)).toNat 0).toNat:Nat)=111) (hsz:y4.size≤10) {e:Int} (hx:rdHd bs=.error e):rLp fail fu K all y4 (n + 2) q (encB all) (atR all bs) 0 ((i:Nat):Int)=rqOut K rq0 e:=by
 have hl:=hs.len
 have h1:=z8f (ρ:=ρ) fail fu all hall (by omega) bs hs
 rw [hx] at h1
 obtain⟨he,a,h1⟩:=h1
 dsimp only at h1
 rw [rLp,p7_10L,p7_10,lssT (by omega),cond_true,eqlT rfl,p7_9,cond_true,gd_y (by omega),gd_y (by omega),eqlF (by omega),cond_false,eqlF (by omega),cond_false,eqlT (by omega),cond_true]
 rw [h1,p7_3,p7_2,p7_1]
 exact lE0 fail fu K all y4 n _ _ _ _ _ _ _ _ _ _ _ _ _ _ _ _ _ _ _ _ _ _ _ _ _ _ _ _ _ _ _ _ _ _ _ _ _ _ he
omit hfu hall in
theorem nam_n {q:Rq} {v:List UInt8} (hk:fqN q.k=true):Rq.nam {q with nm:=v}=⟨v.toArray⟩:=if_pos hk
omit hfu hall in
theorem nam_d {q:Rq} {v:Dc} (hk:fqN q.k=false):Rq.nam {q with d:=v}=v.nm:=if_neg (by show ¬ (fqN q.k=true);rw [hk];decide)
theorem k2r (y4:ByteArray) (n:Nat) (q:Rq) (bs:List UInt8) (hs:Sfx all bs) (i:Nat) (hlt:i < y4.size) (hc:((List.getD y4.data.toList (((i:Nat):Int)).toNat 0).toNat:Nat)=110) (hsz:y4.size≤10) (hk:fqN q.k=true) {v r:List UInt8} (hx:rdTxt 24 bs=.ok (v,r)):rLp fail fu K all y4 (n + 1) q (encB all) (atR all bs) 0 ((i:Nat):Int)=rLp fail fu K all y4 n {q with nm:=v} (encB all) (atR all r) 0 ((i + 1:Nat):Int):=by
 have hl:=hs.len
 have h1:=z5c (ρ:=ρ) fail fu all (by omega) (by omega) bs hs
 rw [hx] at h1
 dsimp only [NO6] at h1
 rw [rLp,p7_10L,p7_10,lssT (by omega),cond_true,eqlT rfl,p7_9,cond_true,gd_y (by omega),gd_y (by omega),eqlF (by omega),cond_false,eqlF (by omega),cond_false,eqlF (by omega),cond_false,eqlF (by omega),cond_false,eqlF (by omega),cond_false,eqlF (by omega),cond_false,eqlF (by omega),cond_false,eqlT (by omega),cond_true]
 rw [h1,p7_8,p7_7,p7_6,p7_5,p7_4,p7_3,p7_2,p7_1,show z0c .add .i64 ((i:Nat):Int) 1=((i + 1:Nat):Int) from (addZ (by omega) (by omega)).trans (by omega),rLp,nam_n hk]
theorem k2s (y4:ByteArray) (n:Nat) (q:Rq) (bs:List UInt8) (hs:Sfx all bs) (i:Nat) (hlt:i < y4.size) (hc:((List.getD y4.data.toList (((i:Nat):Int)).toNat 0).toNat:Nat)=110) (hsz:y4.size≤10) {e:Int} (hx:rdTxt 24 bs=.error e):rLp fail fu K all y4 (n + 2) q (encB all) (atR all bs) 0 ((i:Nat):Int)=rqOut K rq0 e:=by
 have hl:=hs.len
 have h1:=z5c (ρ:=ρ) fail fu all (by omega) (by omega) bs hs
 rw [hx] at h1
 obtain⟨he,a,h1⟩:=h1
 dsimp only at h1
 rw [rLp,p7_10L,p7_10,lssT (by omega),cond_true,eqlT rfl,p7_9,cond_true,gd_y (by omega),gd_y (by omega),eqlF (by omega),cond_false,eqlF (by omega),cond_false,eqlF (by omega),cond_false,eqlF (by omega),cond_false,eqlF (by omega),cond_false,eqlF (by omega),cond_false,eqlF (by omega),cond_false,eqlT (by omega),cond_true]
 rw [h1,p7_8,p7_7,p7_6,p7_5,p7_4,p7_3,p7_2,p7_1]
 exact lE0 fail fu K all y4 n _ _ _ _ _ _ _ _ _ _ _ _ _ _ _ _ _ _ _ _ _ _ _ _ _ _ _ _ _ _ _ _ _ _ _ _ _ _ he
theorem k2t (y4:ByteArray) (n:Nat) (q:Rq) (bs:List UInt8) (hs:Sfx all bs) (i:Nat) (hlt:i < y4.size) (hc:((List.getD y4.data.toList (((i:Nat):Int)).toNat 0).toNat:Nat)=102) (hsz:y4.size≤10) {v1 v2:Nat} {r1 r2:List UInt8} (hx:rdNum bs=.ok (v1,r1)) (hy:rdNum r1=.ok (v2,r2)):rLp fail fu K all y4 (n + 1) q (encB all) (atR all bs) 0 ((i:Nat):Int)=rLp fail fu K all y4 n {q with fuel:=v1,cells:=v2} (encB all) (atR all r2) 0 ((i + 1:Nat):Int):=by
 have hl:=hs.len
 have h1:=z2o (ρ:=ρ) fail fu all (by omega) (by omega) bs hs
 rw [hx] at h1
 dsimp only [KO6] at h1
 have h2:=z2o (ρ:=ρ) fail fu all (by omega) (by omega) r1 (hs.of (z0t hx).2.2)
 rw [hy] at h2
 dsimp only [KO6] at h2
 rw [rLp,p7_10L,p7_10,lssT (by omega),cond_true,eqlT rfl,p7_9,cond_true,gd_y (by omega),gd_y (by omega),eqlT (by omega),cond_true]
 rw [h1,h2,p7_1,show z0c .add .i64 ((i:Nat):Int) 1=((i + 1:Nat):Int) from (addZ (by omega) (by omega)).trans (by omega)]
 rfl
theorem k2v (y4:ByteArray) (n:Nat) (q:Rq) (bs:List UInt8) (hs:Sfx all bs) (i:Nat) (hlt:i < y4.size) (hc:((List.getD y4.data.toList (((i:Nat):Int)).toNat 0).toNat:Nat)=102) (hsz:y4.size≤10) {e:Int} (hx:rdNum bs=.error e):rLp fail fu K all y4 (n + 2) q (encB all) (atR all bs) 0 ((i:Nat):Int)=rqOut K rq0 e:=by
 have hl:=hs.len
 have h1:=z2o (ρ:=ρ) fail fu all (by omega) (by omega) bs hs
 rw [hx] at h1
 obtain⟨he,a,h1⟩:=h1
 dsimp only at h1
 rw [rLp,p7_10L,p7_10,lssT (by omega),cond_true,eqlT rfl,p7_9,cond_true,gd_y (by omega),gd_y (by omega),eqlT (by omega),cond_true]
 rw [h1,rnumE _ _ _ _ _ _ he,p7_1]
 exact lE0 fail fu K all y4 n _ _ _ _ _ _ _ _ _ _ _ _ _ _ _ _ _ _ _ _ _ _ _ _ _ _ _ _ _ _ _ _ _ _ _ _ _ _ he
theorem k2u (y4:ByteArray) (n:Nat) (q:Rq) (bs:List UInt8) (hs:Sfx all bs) (i:Nat) (hlt:i < y4.size) (hc:((List.getD y4.data.toList (((i:Nat):Int)).toNat 0).toNat:Nat)=102) (hsz:y4.size≤10) {v1:Nat} {r1:List UInt8} {e:Int} (hx:rdNum bs=.ok (v1,r1)) (hy:rdNum r1=.error e):rLp fail fu K all y4 (n + 2) q (encB all) (atR all bs) 0 ((i:Nat):Int)=rqOut K rq0 e:=by
 have hl:=hs.len
 have h1:=z2o (ρ:=ρ) fail fu all (by omega) (by omega) bs hs
 rw [hx] at h1
 dsimp only [KO6] at h1
 have h2:=z2o (ρ:=ρ) fail fu all (by omega) (by omega) r1 (hs.of (z0t hx).2.2)
 rw [hy] at h2
 obtain⟨he,a,h2⟩:=h2
 dsimp only at h2
 rw [rLp,p7_10L,p7_10,lssT (by omega),cond_true,eqlT rfl,p7_9,cond_true,gd_y (by omega),gd_y (by omega),eqlT (by omega),cond_true]
 rw [h1,h2,p7_1]
 exact lE0 fail fu K all y4 n _ _ _ _ _ _ _ _ _ _ _ _ _ _ _ _ _ _ _ _ _ _ _ _ _ _ _ _ _ _ _ _ _ _ _ _ _ _ he
theorem w8m (y4:ByteArray) (n:Nat) (q:Rq) (bs:List UInt8) (hs:Sfx all bs) (i:Nat) (hlt:i < y4.size) (hc:((List.getD y4.data.toList (((i:Nat):Int)).toNat 0).toNat:Nat)=100) (hsz:y4.size≤10) (hk:fqN q.k=false) {v:Dc} {r:List UInt8} (hx:z1i bs=.ok (v,r)):rLp fail fu K all y4 (n + 2) q (encB all) (atR all bs) 0 ((i:Nat):Int)=rLp fail fu K all y4 (n + 1) {q with d:=v} (encB all) (atR all r) 0 ((i + 1:Nat):Int):=by
 have hl:=hs.len
 rw [rLp,p7_10L,p7_10,lssT (by omega),cond_true,eqlT rfl,p7_9,cond_true,gd_y (by omega),gd_y (by omega),eqlF (by omega),cond_false,eqlF (by omega),cond_false,eqlF (by omega),cond_false,eqlT (by omega),cond_true]
 refine (w2n fail fu (by omega) _ (fun e=>rqOut K rq0 e) (fun e he y1 y2 y3 y4 y5 y6 y7 y8 y9 y10 y11 y12 y13 y14 y15 y16 y17 y18=>?_) all (by omega) bs hs).trans ?_
 ·rw [p7_4,p7_3,p7_2,p7_1]
  exact lE0 fail fu K all _ n _ _ _ _ _ _ _ _ _ _ _ _ _ _ _ _ _ _ _ _ _ _ _ _ _ _ _ _ _ _ _ _ _ _ _ _ _ _ he
 ·rw [hx]
  dsimp only
  rw [p7_4,p7_3,p7_2,p7_1,show z0c .add .i64 ((i:Nat):Int) 1=((i + 1:Nat):Int) from (addZ (by omega) (by omega)).trans (by omega),rLp,nam_d hk]
theorem w8n (y4:ByteArray) (n:Nat) (q:Rq) (bs:List UInt8) (hs:Sfx all bs) (i:Nat) (hlt:i < y4.size) (hc:((List.getD y4.data.toList (((i:Nat):Int)).toNat 0).toNat:Nat)=100) (hsz:y4.size≤10) (hk:fqN q.k=false) {e:Int} (hx:z1i bs=.error e):rLp fail fu K all y4 (n + 2) q (encB all) (atR all bs) 0 ((i:Nat):Int)=rqOut K rq0 e:=by
 have hl:=hs.len
 rw [rLp,p7_10L,p7_10,lssT (by omega),cond_true,eqlT rfl,p7_9,cond_true,gd_y (by omega),gd_y (by omega),eqlF (by omega),cond_false,eqlF (by omega),cond_false,eqlF (by omega),cond_false,eqlT (by omega),cond_true]
 refine (w2n fail fu (by omega) _ (fun e=>rqOut K rq0 e) (fun e he y1 y2 y3 y4 y5 y6 y7 y8 y9 y10 y11 y12 y13 y14 y15 y16 y17 y18=>?_) all (by omega) bs hs).trans ?_
 ·rw [p7_4,p7_3,p7_2,p7_1]
  exact lE0 fail fu K all _ n _ _ _ _ _ _ _ _ _ _ _ _ _ _ _ _ _ _ _ _ _ _ _ _ _ _ _ _ _ _ _ _ _ _ _ _ _ _ he
 ·rw [hx]
omit hfu hall in
theorem z5p {bs r:List UInt8} {v:Nat × Nat} (hs:Sfx all bs) (h:rdHd bs=.ok (v,r)):Sfx all r:=by
 unfold rdHd at h;split at h
 ·cases h
 ·injection h with h;injection h with _ h;subst h;exact hs.dropn 16
theorem rk_1 (n:Nat) (bs:List UInt8) (hs:Sfx all bs):rLp fail fu K all ⟨#[102]⟩ (n + 10) ⟨1,0,0,0,(0,0),(0,0),dc0,[],tm0,tm0⟩ (encB all) (atR all bs) 0 0=rqEnd K ((bd (rdIf (fqQ 1) 0 rdNum) fun fuel=>bd (rdIf (fqQ 1) 0 rdNum) fun cells=>bd (rdIf (fqH 1) (0,0) z0i) fun h=>bd (rdIf (fqO 1) (0,0) z0i) fun o=>bd (rdIf (fqD 1) dc0 z1i) fun d=>bd (rdIf (fqP 1) 0 rdNum) fun pa=>bd (rdIf (fqT 1) tm0 z0j) fun t=>bd (rdIf (fqY 1) tm0 z0j) fun ty=>bd (rdIf (fqN 1) [] (rdTxt 24)) fun nm=>rt ⟨1,pa,fuel,cells,h,o,d,nm,t,ty⟩) bs):=by
 refine z1c rfl (fun v1 r1 hx1=>?_) (fun e hx1=>k2v fail fu hfu K all hall ⟨#[102]⟩ (n + 8) ⟨1,0,0,0,(0,0),(0,0),dc0,[],tm0,tm0⟩ bs hs 0 (by decide) (by decide) (by decide) hx1)
 refine z1c rfl (fun v2 r2 hx2=>?_) (fun e hx2=>k2u fail fu hfu K all hall ⟨#[102]⟩ (n + 8) ⟨1,0,0,0,(0,0),(0,0),dc0,[],tm0,tm0⟩ bs hs 0 (by decide) (by decide) (by decide) hx1 hx2)
 have hs2:=(hs.of (z0t hx1).2.2).of (z0t hx2).2.2
 refine (k2t fail fu hfu K all hall ⟨#[102]⟩ (n + 9) ⟨1,0,0,0,(0,0),(0,0),dc0,[],tm0,tm0⟩ bs hs 0 (by decide) (by decide) (by decide) hx1 hx2).trans ?_
 refine z0f rfl ?_
 refine z0f rfl ?_
 refine z0f rfl ?_
 refine z0f rfl ?_
 refine z0f rfl ?_
 refine z0f rfl ?_
 refine z0f rfl ?_
 exact lEnd fail fu K all hall ⟨#[102]⟩ (n + 8) ⟨1,0,v1,v2,(0,0),(0,0),dc0,[],tm0,tm0⟩ r2 hs2 1 (by decide)
theorem rk_2 (n:Nat) (bs:List UInt8) (hs:Sfx all bs):rLp fail fu K all ⟨#[104]⟩ (n + 10) ⟨2,0,0,0,(0,0),(0,0),dc0,[],tm0,tm0⟩ (encB all) (atR all bs) 0 0=rqEnd K ((bd (rdIf (fqQ 2) 0 rdNum) fun fuel=>bd (rdIf (fqQ 2) 0 rdNum) fun cells=>bd (rdIf (fqH 2) (0,0) z0i) fun h=>bd (rdIf (fqO 2) (0,0) z0i) fun o=>bd (rdIf (fqD 2) dc0 z1i) fun d=>bd (rdIf (fqP 2) 0 rdNum) fun pa=>bd (rdIf (fqT 2) tm0 z0j) fun t=>bd (rdIf (fqY 2) tm0 z0j) fun ty=>bd (rdIf (fqN 2) [] (rdTxt 24)) fun nm=>rt ⟨2,pa,fuel,cells,h,o,d,nm,t,ty⟩) bs):=by
 refine z0f rfl ?_
 refine z0f rfl ?_
 refine z1c rfl (fun v3 r3 hx3=>?_) (fun e hx3=>z6p fail fu hfu K all hall ⟨#[104]⟩ (n + 8) ⟨2,0,0,0,(0,0),(0,0),dc0,[],tm0,tm0⟩ bs hs 0 (by decide) (by decide) (by decide) ((z0n _).symm.trans hx3))
 obtain⟨v3a,v3b⟩:=v3
 have hs3:=z5p all hs ((z0n _).symm.trans hx3)
 refine (z6o fail fu hfu K all hall ⟨#[104]⟩ (n + 9) ⟨2,0,0,0,(0,0),(0,0),dc0,[],tm0,tm0⟩ bs hs 0 (by decide) (by decide) (by decide) ((z0n _).symm.trans hx3)).trans ?_
 refine z0f rfl ?_
 refine z0f rfl ?_
 refine z0f rfl ?_
 refine z0f rfl ?_
 refine z0f rfl ?_
 refine z0f rfl ?_
 exact lEnd fail fu K all hall ⟨#[104]⟩ (n + 8) ⟨2,0,0,0,(v3a,v3b),(0,0),dc0,[],tm0,tm0⟩ r3 hs3 1 (by decide)
theorem rk_3 (n:Nat) (bs:List UInt8) (hs:Sfx all bs):rLp fail fu K all ⟨#[100]⟩ (n + 10) ⟨3,0,0,0,(0,0),(0,0),dc0,[],tm0,tm0⟩ (encB all) (atR all bs) 0 0=rqEnd K ((bd (rdIf (fqQ 3) 0 rdNum) fun fuel=>bd (rdIf (fqQ 3) 0 rdNum) fun cells=>bd (rdIf (fqH 3) (0,0) z0i) fun h=>bd (rdIf (fqO 3) (0,0) z0i) fun o=>bd (rdIf (fqD 3) dc0 z1i) fun d=>bd (rdIf (fqP 3) 0 rdNum) fun pa=>bd (rdIf (fqT 3) tm0 z0j) fun t=>bd (rdIf (fqY 3) tm0 z0j) fun ty=>bd (rdIf (fqN 3) [] (rdTxt 24)) fun nm=>rt ⟨3,pa,fuel,cells,h,o,d,nm,t,ty⟩) bs):=by
 refine z0f rfl ?_
 refine z0f rfl ?_
 refine z0f rfl ?_
 refine z0f rfl ?_
 refine z1c rfl (fun v3 r3 hx3=>?_) (fun e hx3=>w8n fail fu hfu K all hall ⟨#[100]⟩ (n + 8) ⟨3,0,0,0,(0,0),(0,0),dc0,[],tm0,tm0⟩ bs hs 0 (by decide) (by decide) (by decide) rfl hx3)
 have hs3:=hs.of (z2p hx3).1
 refine (w8m fail fu hfu K all hall ⟨#[100]⟩ (n + 8) ⟨3,0,0,0,(0,0),(0,0),dc0,[],tm0,tm0⟩ bs hs 0 (by decide) (by decide) (by decide) rfl hx3).trans ?_
 refine z0f rfl ?_
 refine z0f rfl ?_
 refine z0f rfl ?_
 refine z0f rfl ?_
 exact lEnd fail fu K all hall ⟨#[100]⟩ (n + 8) ⟨3,0,0,0,(0,0),(0,0),v3,[],tm0,tm0⟩ r3 hs3 1 (by decide)
theorem rk_4 (n:Nat) (bs:List UInt8) (hs:Sfx all bs):rLp fail fu K all ⟨#[100]⟩ (n + 10) ⟨4,0,0,0,(0,0),(0,0),dc0,[],tm0,tm0⟩ (encB all) (atR all bs) 0 0=rqEnd K ((bd (rdIf (fqQ 4) 0 rdNum) fun fuel=>bd (rdIf (fqQ 4) 0 rdNum) fun cells=>bd (rdIf (fqH 4) (0,0) z0i) fun h=>bd (rdIf (fqO 4) (0,0) z0i) fun o=>bd (rdIf (fqD 4) dc0 z1i) fun d=>bd (rdIf (fqP 4) 0 rdNum) fun pa=>bd (rdIf (fqT 4) tm0 z0j) fun t=>bd (rdIf (fqY 4) tm0 z0j) fun ty=>bd (rdIf (fqN 4) [] (rdTxt 24)) fun nm=>rt ⟨4,pa,fuel,cells,h,o,d,nm,t,ty⟩) bs):=by
 refine z0f rfl ?_
 refine z0f rfl ?_
 refine z0f rfl ?_
 refine z0f rfl ?_
 refine z1c rfl (fun v3 r3 hx3=>?_) (fun e hx3=>w8n fail fu hfu K all hall ⟨#[100]⟩ (n + 8) ⟨4,0,0,0,(0,0),(0,0),dc0,[],tm0,tm0⟩ bs hs 0 (by decide) (by decide) (by decide) rfl hx3)
 have hs3:=hs.of (z2p hx3).1
 refine (w8m fail fu hfu K all hall ⟨#[100]⟩ (n + 8) ⟨4,0,0,0,(0,0),(0,0),dc0,[],tm0,tm0⟩ bs hs 0 (by decide) (by decide) (by decide) rfl hx3).trans ?_
 refine z0f rfl ?_
 refine z0f rfl ?_
 refine z0f rfl ?_
 refine z0f rfl ?_
 exact lEnd fail fu K all hall ⟨#[100]⟩ (n + 8) ⟨4,0,0,0,(0,0),(0,0),v3,[],tm0,tm0⟩ r3 hs3 1 (by decide)
theorem rk_5 (n:Nat) (bs:List UInt8) (hs:Sfx all bs):rLp fail fu K all ⟨#[100]⟩ (n + 10) ⟨5,0,0,0,(0,0),(0,0),dc0,[],tm0,tm0⟩ (encB all) (atR all bs) 0 0=rqEnd K ((bd (rdIf (fqQ 5) 0 rdNum) fun fuel=>bd (rdIf (fqQ 5) 0 rdNum) fun cells=>bd (rdIf (fqH 5) (0,0) z0i) fun h=>bd (rdIf (fqO 5) (0,0) z0i) fun o=>bd (rdIf (fqD 5) dc0 z1i) fun d=>bd (rdIf (fqP 5) 0 rdNum) fun pa=>bd (rdIf (fqT 5) tm0 z0j) fun t=>bd (rdIf (fqY 5) tm0 z0j) fun ty=>bd (rdIf (fqN 5) [] (rdTxt 24)) fun nm=>rt ⟨5,pa,fuel,cells,h,o,d,nm,t,ty⟩) bs):=by
 refine z0f rfl ?_
 refine z0f rfl ?_
 refine z0f rfl ?_
 refine z0f rfl ?_
 refine z1c rfl (fun v3 r3 hx3=>?_) (fun e hx3=>w8n fail fu hfu K all hall ⟨#[100]⟩ (n + 8) ⟨5,0,0,0,(0,0),(0,0),dc0,[],tm0,tm0⟩ bs hs 0 (by decide) (by decide) (by decide) rfl hx3)
 have hs3:=hs.of (z2p hx3).1
 refine (w8m fail fu hfu K all hall ⟨#[100]⟩ (n + 8) ⟨5,0,0,0,(0,0),(0,0),dc0,[],tm0,tm0⟩ bs hs 0 (by decide) (by decide) (by decide) rfl hx3).trans ?_
 refine z0f rfl ?_
 refine z0f rfl ?_
 refine z0f rfl ?_
 refine z0f rfl ?_
 exact lEnd fail fu K all hall ⟨#[100]⟩ (n + 8) ⟨5,0,0,0,(0,0),(0,0),v3,[],tm0,tm0⟩ r3 hs3 1 (by decide)
theorem rk_6 (n:Nat) (bs:List UInt8) (hs:Sfx all bs):rLp fail fu K all ⟨#[112,116]⟩ (n + 10) ⟨6,0,0,0,(0,0),(0,0),dc0,[],tm0,tm0⟩ (encB all) (atR all bs) 0 0=rqEnd K ((bd (rdIf (fqQ 6) 0 rdNum) fun fuel=>bd (rdIf (fqQ 6) 0 rdNum) fun cells=>bd (rdIf (fqH 6) (0,0) z0i) fun h=>bd (rdIf (fqO 6) (0,0) z0i) fun o=>bd (rdIf (fqD 6) dc0 z1i) fun d=>bd (rdIf (fqP 6) 0 rdNum) fun pa=>bd (rdIf (fqT 6) tm0 z0j) fun t=>bd (rdIf (fqY 6) tm0 z0j) fun ty=>bd (rdIf (fqN 6) [] (rdTxt 24)) fun nm=>rt ⟨6,pa,fuel,cells,h,o,d,nm,t,ty⟩) bs):=by
 refine z0f rfl ?_
 refine z0f rfl ?_
 refine z0f rfl ?_
 refine z0f rfl ?_
 refine z0f rfl ?_
 refine z1c rfl (fun v3 r3 hx3=>?_) (fun e hx3=>w5u fail fu hfu K all hall ⟨#[112,116]⟩ (n + 8) ⟨6,0,0,0,(0,0),(0,0),dc0,[],tm0,tm0⟩ bs hs 0 (by decide) (by decide) (by decide) hx3)
 have hs3:=hs.of (z0t hx3).2.2
 refine (w5t fail fu hfu K all hall ⟨#[112,116]⟩ (n + 9) ⟨6,0,0,0,(0,0),(0,0),dc0,[],tm0,tm0⟩ bs hs 0 (by decide) (by decide) (by decide) hx3).trans ?_
 refine z1c rfl (fun v4 r4 hx4=>?_) (fun e hx4=>w2v fail fu hfu K all hall ⟨#[112,116]⟩ (n + 7) ⟨6,v3,0,0,(0,0),(0,0),dc0,[],tm0,tm0⟩ r3 hs3 1 (by decide) (by decide) (by decide) hx4)
 have hs4:=hs3.of (z0w hx4)
 refine (w2u fail fu hfu K all hall ⟨#[112,116]⟩ (n + 8) ⟨6,v3,0,0,(0,0),(0,0),dc0,[],tm0,tm0⟩ r3 hs3 1 (by decide) (by decide) (by decide) hx4).trans ?_
 refine z0f rfl ?_
 refine z0f rfl ?_
 exact lEnd fail fu K all hall ⟨#[112,116]⟩ (n + 7) ⟨6,v3,0,0,(0,0),(0,0),dc0,[],v4,tm0⟩ r4 hs4 2 (by decide)
theorem rk_7 (n:Nat) (bs:List UInt8) (hs:Sfx all bs):rLp fail fu K all ⟨#[112,116,121]⟩ (n + 10) ⟨7,0,0,0,(0,0),(0,0),dc0,[],tm0,tm0⟩ (encB all) (atR all bs) 0 0=rqEnd K ((bd (rdIf (fqQ 7) 0 rdNum) fun fuel=>bd (rdIf (fqQ 7) 0 rdNum) fun cells=>bd (rdIf (fqH 7) (0,0) z0i) fun h=>bd (rdIf (fqO 7) (0,0) z0i) fun o=>bd (rdIf (fqD 7) dc0 z1i) fun d=>bd (rdIf (fqP 7) 0 rdNum) fun pa=>bd (rdIf (fqT 7) tm0 z0j) fun t=>bd (rdIf (fqY 7) tm0 z0j) fun ty=>bd (rdIf (fqN 7) [] (rdTxt 24)) fun nm=>rt ⟨7,pa,fuel,cells,h,o,d,nm,t,ty⟩) bs):=by
 refine z0f rfl ?_
 refine z0f rfl ?_
 refine z0f rfl ?_
 refine z0f rfl ?_
 refine z0f rfl ?_
 refine z1c rfl (fun v3 r3 hx3=>?_) (fun e hx3=>w5u fail fu hfu K all hall ⟨#[112,116,121]⟩ (n + 8) ⟨7,0,0,0,(0,0),(0,0),dc0,[],tm0,tm0⟩ bs hs 0 (by decide) (by decide) (by decide) hx3)
 have hs3:=hs.of (z0t hx3).2.2
 refine (w5t fail fu hfu K all hall ⟨#[112,116,121]⟩ (n + 9) ⟨7,0,0,0,(0,0),(0,0),dc0,[],tm0,tm0⟩ bs hs 0 (by decide) (by decide) (by decide) hx3).trans ?_
 refine z1c rfl (fun v4 r4 hx4=>?_) (fun e hx4=>w2v fail fu hfu K all hall ⟨#[112,116,121]⟩ (n + 7) ⟨7,v3,0,0,(0,0),(0,0),dc0,[],tm0,tm0⟩ r3 hs3 1 (by decide) (by decide) (by decide) hx4)
 have hs4:=hs3.of (z0w hx4)
 refine (w2u fail fu hfu K all hall ⟨#[112,116,121]⟩ (n + 8) ⟨7,v3,0,0,(0,0),(0,0),dc0,[],tm0,tm0⟩ r3 hs3 1 (by decide) (by decide) (by decide) hx4).trans ?_
 refine z1c rfl (fun v5 r5 hx5=>?_) (fun e hx5=>w8l fail fu hfu K all hall ⟨#[112,116,121]⟩ (n + 6) ⟨7,v3,0,0,(0,0),(0,0),dc0,[],v4,tm0⟩ r4 hs4 2 (by decide) (by decide) (by decide) hx5)
 have hs5:=hs4.of (z0w hx5)
 refine (w8k fail fu hfu K all hall ⟨#[112,116,121]⟩ (n + 7) ⟨7,v3,0,0,(0,0),(0,0),dc0,[],v4,tm0⟩ r4 hs4 2 (by decide) (by decide) (by decide) hx5).trans ?_
 refine z0f rfl ?_
 exact lEnd fail fu K all hall ⟨#[112,116,121]⟩ (n + 6) ⟨7,v3,0,0,(0,0),(0,0),dc0,[],v4,v5⟩ r5 hs5 3 (by decide)
theorem rk_8 (n:Nat) (bs:List UInt8) (hs:Sfx all bs):rLp fail fu K all ⟨#[104,111]⟩ (n + 10) ⟨8,0,0,0,(0,0),(0,0),dc0,[],tm0,tm0⟩ (encB all) (atR all bs) 0 0=rqEnd K ((bd (rdIf (fqQ 8) 0 rdNum) fun fuel=>bd (rdIf (fqQ 8) 0 rdNum) fun cells=>bd (rdIf (fqH 8) (0,0) z0i) fun h=>bd (rdIf (fqO 8) (0,0) z0i) fun o=>bd (rdIf (fqD 8) dc0 z1i) fun d=>bd (rdIf (fqP 8) 0 rdNum) fun pa=>bd (rdIf (fqT 8) tm0 z0j) fun t=>bd (rdIf (fqY 8) tm0 z0j) fun ty=>bd (rdIf (fqN 8) [] (rdTxt 24)) fun nm=>rt ⟨8,pa,fuel,cells,h,o,d,nm,t,ty⟩) bs):=by
 refine z0f rfl ?_
 refine z0f rfl ?_
 refine z1c rfl (fun v3 r3 hx3=>?_) (fun e hx3=>z6p fail fu hfu K all hall ⟨#[104,111]⟩ (n + 8) ⟨8,0,0,0,(0,0),(0,0),dc0,[],tm0,tm0⟩ bs hs 0 (by decide) (by decide) (by decide) ((z0n _).symm.trans hx3))
 obtain⟨v3a,v3b⟩:=v3
 have hs3:=z5p all hs ((z0n _).symm.trans hx3)
 refine (z6o fail fu hfu K all hall ⟨#[104,111]⟩ (n + 9) ⟨8,0,0,0,(0,0),(0,0),dc0,[],tm0,tm0⟩ bs hs 0 (by decide) (by decide) (by decide) ((z0n _).symm.trans hx3)).trans ?_
 refine z1c rfl (fun v4 r4 hx4=>?_) (fun e hx4=>k2q fail fu hfu K all hall ⟨#[104,111]⟩ (n + 7) ⟨8,0,0,0,(v3a,v3b),(0,0),dc0,[],tm0,tm0⟩ r3 hs3 1 (by decide) (by decide) (by decide) ((z0n _).symm.trans hx4))
 obtain⟨v4a,v4b⟩:=v4
 have hs4:=z5p all hs3 ((z0n _).symm.trans hx4)
 refine (k2p fail fu hfu K all hall ⟨#[104,111]⟩ (n + 8) ⟨8,0,0,0,(v3a,v3b),(0,0),dc0,[],tm0,tm0⟩ r3 hs3 1 (by decide) (by decide) (by decide) ((z0n _).symm.trans hx4)).trans ?_
 refine z0f rfl ?_
 refine z0f rfl ?_
 refine z0f rfl ?_
 refine z0f rfl ?_
 refine z0f rfl ?_
 exact lEnd fail fu K all hall ⟨#[104,111]⟩ (n + 7) ⟨8,0,0,0,(v3a,v3b),(v4a,v4b),dc0,[],tm0,tm0⟩ r4 hs4 2 (by decide)
theorem rk_9 (n:Nat) (bs:List UInt8) (hs:Sfx all bs):rLp fail fu K all ⟨#[104,116]⟩ (n + 10) ⟨9,0,0,0,(0,0),(0,0),dc0,[],tm0,tm0⟩ (encB all) (atR all bs) 0 0=rqEnd K ((bd (rdIf (fqQ 9) 0 rdNum) fun fuel=>bd (rdIf (fqQ 9) 0 rdNum) fun cells=>bd (rdIf (fqH 9) (0,0) z0i) fun h=>bd (rdIf (fqO 9) (0,0) z0i) fun o=>bd (rdIf (fqD 9) dc0 z1i) fun d=>bd (rdIf (fqP 9) 0 rdNum) fun pa=>bd (rdIf (fqT 9) tm0 z0j) fun t=>bd (rdIf (fqY 9) tm0 z0j) fun ty=>bd (rdIf (fqN 9) [] (rdTxt 24)) fun nm=>rt ⟨9,pa,fuel,cells,h,o,d,nm,t,ty⟩) bs):=by
 refine z0f rfl ?_
 refine z0f rfl ?_
 refine z1c rfl (fun v3 r3 hx3=>?_) (fun e hx3=>z6p fail fu hfu K all hall ⟨#[104,116]⟩ (n + 8) ⟨9,0,0,0,(0,0),(0,0),dc0,[],tm0,tm0⟩ bs hs 0 (by decide) (by decide) (by decide) ((z0n _).symm.trans hx3))
 obtain⟨v3a,v3b⟩:=v3
 have hs3:=z5p all hs ((z0n _).symm.trans hx3)
 refine (z6o fail fu hfu K all hall ⟨#[104,116]⟩ (n + 9) ⟨9,0,0,0,(0,0),(0,0),dc0,[],tm0,tm0⟩ bs hs 0 (by decide) (by decide) (by decide) ((z0n _).symm.trans hx3)).trans ?_
 refine z0f rfl ?_
 refine z0f rfl ?_
 refine z0f rfl ?_
 refine z1c rfl (fun v4 r4 hx4=>?_) (fun e hx4=>w2v fail fu hfu K all hall ⟨#[104,116]⟩ (n + 7) ⟨9,0,0,0,(v3a,v3b),(0,0),dc0,[],tm0,tm0⟩ r3 hs3 1 (by decide) (by decide) (by decide) hx4)
 have hs4:=hs3.of (z0w hx4)
 refine (w2u fail fu hfu K all hall ⟨#[104,116]⟩ (n + 8) ⟨9,0,0,0,(v3a,v3b),(0,0),dc0,[],tm0,tm0⟩ r3 hs3 1 (by decide) (by decide) (by decide) hx4).trans ?_
 refine z0f rfl ?_
 refine z0f rfl ?_
 exact lEnd fail fu K all hall ⟨#[104,116]⟩ (n + 7) ⟨9,0,0,0,(v3a,v3b),(0,0),dc0,[],v4,tm0⟩ r4 hs4 2 (by decide)
theorem rk_10 (n:Nat) (bs:List UInt8) (hs:Sfx all bs):rLp fail fu K all ⟨#[104,121]⟩ (n + 10) ⟨10,0,0,0,(0,0),(0,0),dc0,[],tm0,tm0⟩ (encB all) (atR all bs) 0 0=rqEnd K ((bd (rdIf (fqQ 10) 0 rdNum) fun fuel=>bd (rdIf (fqQ 10) 0 rdNum) fun cells=>bd (rdIf (fqH 10) (0,0) z0i) fun h=>bd (rdIf (fqO 10) (0,0) z0i) fun o=>bd (rdIf (fqD 10) dc0 z1i) fun d=>bd (rdIf (fqP 10) 0 rdNum) fun pa=>bd (rdIf (fqT 10) tm0 z0j) fun t=>bd (rdIf (fqY 10) tm0 z0j) fun ty=>bd (rdIf (fqN 10) [] (rdTxt 24)) fun nm=>rt ⟨10,pa,fuel,cells,h,o,d,nm,t,ty⟩) bs):=by
 refine z0f rfl ?_
 refine z0f rfl ?_
 refine z1c rfl (fun v3 r3 hx3=>?_) (fun e hx3=>z6p fail fu hfu K all hall ⟨#[104,121]⟩ (n + 8) ⟨10,0,0,0,(0,0),(0,0),dc0,[],tm0,tm0⟩ bs hs 0 (by decide) (by decide) (by decide) ((z0n _).symm.trans hx3))
 obtain⟨v3a,v3b⟩:=v3
 have hs3:=z5p all hs ((z0n _).symm.trans hx3)
 refine (z6o fail fu hfu K all hall ⟨#[104,121]⟩ (n + 9) ⟨10,0,0,0,(0,0),(0,0),dc0,[],tm0,tm0⟩ bs hs 0 (by decide) (by decide) (by decide) ((z0n _).symm.trans hx3)).trans ?_
 refine z0f rfl ?_
 refine z0f rfl ?_
 refine z0f rfl ?_
 refine z0f rfl ?_
 refine z1c rfl (fun v4 r4 hx4=>?_) (fun e hx4=>w8l fail fu hfu K all hall ⟨#[104,121]⟩ (n + 7) ⟨10,0,0,0,(v3a,v3b),(0,0),dc0,[],tm0,tm0⟩ r3 hs3 1 (by decide) (by decide) (by decide) hx4)
 have hs4:=hs3.of (z0w hx4)
 refine (w8k fail fu hfu K all hall ⟨#[104,121]⟩ (n + 8) ⟨10,0,0,0,(v3a,v3b),(0,0),dc0,[],tm0,tm0⟩ r3 hs3 1 (by decide) (by decide) (by decide) hx4).trans ?_
 refine z0f rfl ?_
 exact lEnd fail fu K all hall ⟨#[104,121]⟩ (n + 7) ⟨10,0,0,0,(v3a,v3b),(0,0),dc0,[],tm0,v4⟩ r4 hs4 2 (by decide)
theorem rk_11 (n:Nat) (bs:List UInt8) (hs:Sfx all bs):rLp fail fu K all ⟨#[104]⟩ (n + 10) ⟨11,0,0,0,(0,0),(0,0),dc0,[],tm0,tm0⟩ (encB all) (atR all bs) 0 0=rqEnd K ((bd (rdIf (fqQ 11) 0 rdNum) fun fuel=>bd (rdIf (fqQ 11) 0 rdNum) fun cells=>bd (rdIf (fqH 11) (0,0) z0i) fun h=>bd (rdIf (fqO 11) (0,0) z0i) fun o=>bd (rdIf (fqD 11) dc0 z1i) fun d=>bd (rdIf (fqP 11) 0 rdNum) fun pa=>bd (rdIf (fqT 11) tm0 z0j) fun t=>bd (rdIf (fqY 11) tm0 z0j) fun ty=>bd (rdIf (fqN 11) [] (rdTxt 24)) fun nm=>rt ⟨11,pa,fuel,cells,h,o,d,nm,t,ty⟩) bs):=by
 refine z0f rfl ?_
 refine z0f rfl ?_
 refine z1c rfl (fun v3 r3 hx3=>?_) (fun e hx3=>z6p fail fu hfu K all hall ⟨#[104]⟩ (n + 8) ⟨11,0,0,0,(0,0),(0,0),dc0,[],tm0,tm0⟩ bs hs 0 (by decide) (by decide) (by decide) ((z0n _).symm.trans hx3))
 obtain⟨v3a,v3b⟩:=v3
 have hs3:=z5p all hs ((z0n _).symm.trans hx3)
 refine (z6o fail fu hfu K all hall ⟨#[104]⟩ (n + 9) ⟨11,0,0,0,(0,0),(0,0),dc0,[],tm0,tm0⟩ bs hs 0 (by decide) (by decide) (by decide) ((z0n _).symm.trans hx3)).trans ?_
 refine z0f rfl ?_
 refine z0f rfl ?_
 refine z0f rfl ?_
 refine z0f rfl ?_
 refine z0f rfl ?_
 refine z0f rfl ?_
 exact lEnd fail fu K all hall ⟨#[104]⟩ (n + 8) ⟨11,0,0,0,(v3a,v3b),(0,0),dc0,[],tm0,tm0⟩ r3 hs3 1 (by decide)
theorem rk_12 (n:Nat) (bs:List UInt8) (hs:Sfx all bs):rLp fail fu K all ⟨#[104]⟩ (n + 10) ⟨12,0,0,0,(0,0),(0,0),dc0,[],tm0,tm0⟩ (encB all) (atR all bs) 0 0=rqEnd K ((bd (rdIf (fqQ 12) 0 rdNum) fun fuel=>bd (rdIf (fqQ 12) 0 rdNum) fun cells=>bd (rdIf (fqH 12) (0,0) z0i) fun h=>bd (rdIf (fqO 12) (0,0) z0i) fun o=>bd (rdIf (fqD 12) dc0 z1i) fun d=>bd (rdIf (fqP 12) 0 rdNum) fun pa=>bd (rdIf (fqT 12) tm0 z0j) fun t=>bd (rdIf (fqY 12) tm0 z0j) fun ty=>bd (rdIf (fqN 12) [] (rdTxt 24)) fun nm=>rt ⟨12,pa,fuel,cells,h,o,d,nm,t,ty⟩) bs):=by
 refine z0f rfl ?_
 refine z0f rfl ?_
 refine z1c rfl (fun v3 r3 hx3=>?_) (fun e hx3=>z6p fail fu hfu K all hall ⟨#[104]⟩ (n + 8) ⟨12,0,0,0,(0,0),(0,0),dc0,[],tm0,tm0⟩ bs hs 0 (by decide) (by decide) (by decide) ((z0n _).symm.trans hx3))
 obtain⟨v3a,v3b⟩:=v3
 have hs3:=z5p all hs ((z0n _).symm.trans hx3)
 refine (z6o fail fu hfu K all hall ⟨#[104]⟩ (n + 9) ⟨12,0,0,0,(0,0),(0,0),dc0,[],tm0,tm0⟩ bs hs 0 (by decide) (by decide) (by decide) ((z0n _).symm.trans hx3)).trans ?_
 refine z0f rfl ?_
 refine z0f rfl ?_
 refine z0f rfl ?_
 refine z0f rfl ?_
 refine z0f rfl ?_
 refine z0f rfl ?_
 exact lEnd fail fu K all hall ⟨#[104]⟩ (n + 8) ⟨12,0,0,0,(v3a,v3b),(0,0),dc0,[],tm0,tm0⟩ r3 hs3 1 (by decide)
theorem rk_13 (n:Nat) (bs:List UInt8) (hs:Sfx all bs):rLp fail fu K all ⟨#[104]⟩ (n + 10) ⟨13,0,0,0,(0,0),(0,0),dc0,[],tm0,tm0⟩ (encB all) (atR all bs) 0 0=rqEnd K ((bd (rdIf (fqQ 13) 0 rdNum) fun fuel=>bd (rdIf (fqQ 13) 0 rdNum) fun cells=>bd (rdIf (fqH 13) (0,0) z0i) fun h=>bd (rdIf (fqO 13) (0,0) z0i) fun o=>bd (rdIf (fqD 13) dc0 z1i) fun d=>bd (rdIf (fqP 13) 0 rdNum) fun pa=>bd (rdIf (fqT 13) tm0 z0j) fun t=>bd (rdIf (fqY 13) tm0 z0j) fun ty=>bd (rdIf (fqN 13) [] (rdTxt 24)) fun nm=>rt ⟨13,pa,fuel,cells,h,o,d,nm,t,ty⟩) bs):=by
 refine z0f rfl ?_
 refine z0f rfl ?_
 refine z1c rfl (fun v3 r3 hx3=>?_) (fun e hx3=>z6p fail fu hfu K all hall ⟨#[104]⟩ (n + 8) ⟨13,0,0,0,(0,0),(0,0),dc0,[],tm0,tm0⟩ bs hs 0 (by decide) (by decide) (by decide) ((z0n _).symm.trans hx3))
 obtain⟨v3a,v3b⟩:=v3
 have hs3:=z5p all hs ((z0n _).symm.trans hx3)
 refine (z6o fail fu hfu K all hall ⟨#[104]⟩ (n + 9) ⟨13,0,0,0,(0,0),(0,0),dc0,[],tm0,tm0⟩ bs hs 0 (by decide) (by decide) (by decide) ((z0n _).symm.trans hx3)).trans ?_
 refine z0f rfl ?_
 refine z0f rfl ?_
 refine z0f rfl ?_
 refine z0f rfl ?_
 refine z0f rfl ?_
 refine z0f rfl ?_
 exact lEnd fail fu K all hall ⟨#[104]⟩ (n + 8) ⟨13,0,0,0,(v3a,v3b),(0,0),dc0,[],tm0,tm0⟩ r3 hs3 1 (by decide)
theorem rk_14 (n:Nat) (bs:List UInt8) (hs:Sfx all bs):rLp fail fu K all ⟨#[104]⟩ (n + 10) ⟨14,0,0,0,(0,0),(0,0),dc0,[],tm0,tm0⟩ (encB all) (atR all bs) 0 0=rqEnd K ((bd (rdIf (fqQ 14) 0 rdNum) fun fuel=>bd (rdIf (fqQ 14) 0 rdNum) fun cells=>bd (rdIf (fqH 14) (0,0) z0i) fun h=>bd (rdIf (fqO 14) (0,0) z0i) fun o=>bd (rdIf (fqD 14) dc0 z1i) fun d=>bd (rdIf (fqP 14) 0 rdNum) fun pa=>bd (rdIf (fqT 14) tm0 z0j) fun t=>bd (rdIf (fqY 14) tm0 z0j) fun ty=>bd (rdIf (fqN 14) [] (rdTxt 24)) fun nm=>rt ⟨14,pa,fuel,cells,h,o,d,nm,t,ty⟩) bs):=by
 refine z0f rfl ?_
 refine z0f rfl ?_
 refine z1c rfl (fun v3 r3 hx3=>?_) (fun e hx3=>z6p fail fu hfu K all hall ⟨#[104]⟩ (n + 8) ⟨14,0,0,0,(0,0),(0,0),dc0,[],tm0,tm0⟩ bs hs 0 (by decide) (by decide) (by decide) ((z0n _).symm.trans hx3))
 obtain⟨v3a,v3b⟩:=v3
 have hs3:=z5p all hs ((z0n _).symm.trans hx3)
 refine (z6o fail fu hfu K all hall ⟨#[104]⟩ (n + 9) ⟨14,0,0,0,(0,0),(0,0),dc0,[],tm0,tm0⟩ bs hs 0 (by decide) (by decide) (by decide) ((z0n _).symm.trans hx3)).trans ?_
 refine z0f rfl ?_
 refine z0f rfl ?_
 refine z0f rfl ?_
 refine z0f rfl ?_
 refine z0f rfl ?_
 refine z0f rfl ?_
 exact lEnd fail fu K all hall ⟨#[104]⟩ (n + 8) ⟨14,0,0,0,(v3a,v3b),(0,0),dc0,[],tm0,tm0⟩ r3 hs3 1 (by decide)
theorem rk_15 (n:Nat) (bs:List UInt8) (hs:Sfx all bs):rLp fail fu K all ⟨#[104,110]⟩ (n + 10) ⟨15,0,0,0,(0,0),(0,0),dc0,[],tm0,tm0⟩ (encB all) (atR all bs) 0 0=rqEnd K ((bd (rdIf (fqQ 15) 0 rdNum) fun fuel=>bd (rdIf (fqQ 15) 0 rdNum) fun cells=>bd (rdIf (fqH 15) (0,0) z0i) fun h=>bd (rdIf (fqO 15) (0,0) z0i) fun o=>bd (rdIf (fqD 15) dc0 z1i) fun d=>bd (rdIf (fqP 15) 0 rdNum) fun pa=>bd (rdIf (fqT 15) tm0 z0j) fun t=>bd (rdIf (fqY 15) tm0 z0j) fun ty=>bd (rdIf (fqN 15) [] (rdTxt 24)) fun nm=>rt ⟨15,pa,fuel,cells,h,o,d,nm,t,ty⟩) bs):=by
 refine z0f rfl ?_
 refine z0f rfl ?_
 refine z1c rfl (fun v3 r3 hx3=>?_) (fun e hx3=>z6p fail fu hfu K all hall ⟨#[104,110]⟩ (n + 8) ⟨15,0,0,0,(0,0),(0,0),dc0,[],tm0,tm0⟩ bs hs 0 (by decide) (by decide) (by decide) ((z0n _).symm.trans hx3))
 obtain⟨v3a,v3b⟩:=v3
 have hs3:=z5p all hs ((z0n _).symm.trans hx3)
 refine (z6o fail fu hfu K all hall ⟨#[104,110]⟩ (n + 9) ⟨15,0,0,0,(0,0),(0,0),dc0,[],tm0,tm0⟩ bs hs 0 (by decide) (by decide) (by decide) ((z0n _).symm.trans hx3)).trans ?_
 refine z0f rfl ?_
 refine z0f rfl ?_
 refine z0f rfl ?_
 refine z0f rfl ?_
 refine z0f rfl ?_
 refine z1c rfl (fun v4 r4 hx4=>?_) (fun e hx4=>k2s fail fu hfu K all hall ⟨#[104,110]⟩ (n + 7) ⟨15,0,0,0,(v3a,v3b),(0,0),dc0,[],tm0,tm0⟩ r3 hs3 1 (by decide) (by decide) (by decide) hx4)
 have hs4:=(hs3.of (z1n hx4).2.2.1).app
 refine (k2r fail fu hfu K all hall ⟨#[104,110]⟩ (n + 8) ⟨15,0,0,0,(v3a,v3b),(0,0),dc0,[],tm0,tm0⟩ r3 hs3 1 (by decide) (by decide) (by decide) rfl hx4).trans ?_
 exact lEnd fail fu K all hall ⟨#[104,110]⟩ (n + 7) ⟨15,0,0,0,(v3a,v3b),(0,0),dc0,v4,tm0,tm0⟩ r4 hs4 2 (by decide)
theorem rk_16 (n:Nat) (bs:List UInt8) (hs:Sfx all bs):rLp fail fu K all ⟨#[112,116,121]⟩ (n + 10) ⟨16,0,0,0,(0,0),(0,0),dc0,[],tm0,tm0⟩ (encB all) (atR all bs) 0 0=rqEnd K ((bd (rdIf (fqQ 16) 0 rdNum) fun fuel=>bd (rdIf (fqQ 16) 0 rdNum) fun cells=>bd (rdIf (fqH 16) (0,0) z0i) fun h=>bd (rdIf (fqO 16) (0,0) z0i) fun o=>bd (rdIf (fqD 16) dc0 z1i) fun d=>bd (rdIf (fqP 16) 0 rdNum) fun pa=>bd (rdIf (fqT 16) tm0 z0j) fun t=>bd (rdIf (fqY 16) tm0 z0j) fun ty=>bd (rdIf (fqN 16) [] (rdTxt 24)) fun nm=>rt ⟨16,pa,fuel,cells,h,o,d,nm,t,ty⟩) bs):=by
 refine z0f rfl ?_
 refine z0f rfl ?_
 refine z0f rfl ?_
 refine z0f rfl ?_
 refine z0f rfl ?_
 refine z1c rfl (fun v3 r3 hx3=>?_) (fun e hx3=>w5u fail fu hfu K all hall ⟨#[112,116,121]⟩ (n + 8) ⟨16,0,0,0,(0,0),(0,0),dc0,[],tm0,tm0⟩ bs hs 0 (by decide) (by decide) (by decide) hx3)
 have hs3:=hs.of (z0t hx3).2.2
 refine (w5t fail fu hfu K all hall ⟨#[112,116,121]⟩ (n + 9) ⟨16,0,0,0,(0,0),(0,0),dc0,[],tm0,tm0⟩ bs hs 0 (by decide) (by decide) (by decide) hx3).trans ?_
 refine z1c rfl (fun v4 r4 hx4=>?_) (fun e hx4=>w2v fail fu hfu K all hall ⟨#[112,116,121]⟩ (n + 7) ⟨16,v3,0,0,(0,0),(0,0),dc0,[],tm0,tm0⟩ r3 hs3 1 (by decide) (by decide) (by decide) hx4)
 have hs4:=hs3.of (z0w hx4)
 refine (w2u fail fu hfu K all hall ⟨#[112,116,121]⟩ (n + 8) ⟨16,v3,0,0,(0,0),(0,0),dc0,[],tm0,tm0⟩ r3 hs3 1 (by decide) (by decide) (by decide) hx4).trans ?_
 refine z1c rfl (fun v5 r5 hx5=>?_) (fun e hx5=>w8l fail fu hfu K all hall ⟨#[112,116,121]⟩ (n + 6) ⟨16,v3,0,0,(0,0),(0,0),dc0,[],v4,tm0⟩ r4 hs4 2 (by decide) (by decide) (by decide) hx5)
 have hs5:=hs4.of (z0w hx5)
 refine (w8k fail fu hfu K all hall ⟨#[112,116,121]⟩ (n + 7) ⟨16,v3,0,0,(0,0),(0,0),dc0,[],v4,tm0⟩ r4 hs4 2 (by decide) (by decide) (by decide) hx5).trans ?_
 refine z0f rfl ?_
 exact lEnd fail fu K all hall ⟨#[112,116,121]⟩ (n + 6) ⟨16,v3,0,0,(0,0),(0,0),dc0,[],v4,v5⟩ r5 hs5 3 (by decide)
theorem rk_17 (n:Nat) (bs:List UInt8) (hs:Sfx all bs):rLp fail fu K all ⟨#[112,116]⟩ (n + 10) ⟨17,0,0,0,(0,0),(0,0),dc0,[],tm0,tm0⟩ (encB all) (atR all bs) 0 0=rqEnd K ((bd (rdIf (fqQ 17) 0 rdNum) fun fuel=>bd (rdIf (fqQ 17) 0 rdNum) fun cells=>bd (rdIf (fqH 17) (0,0) z0i) fun h=>bd (rdIf (fqO 17) (0,0) z0i) fun o=>bd (rdIf (fqD 17) dc0 z1i) fun d=>bd (rdIf (fqP 17) 0 rdNum) fun pa=>bd (rdIf (fqT 17) tm0 z0j) fun t=>bd (rdIf (fqY 17) tm0 z0j) fun ty=>bd (rdIf (fqN 17) [] (rdTxt 24)) fun nm=>rt ⟨17,pa,fuel,cells,h,o,d,nm,t,ty⟩) bs):=by
 refine z0f rfl ?_
 refine z0f rfl ?_
 refine z0f rfl ?_
 refine z0f rfl ?_
 refine z0f rfl ?_
 refine z1c rfl (fun v3 r3 hx3=>?_) (fun e hx3=>w5u fail fu hfu K all hall ⟨#[112,116]⟩ (n + 8) ⟨17,0,0,0,(0,0),(0,0),dc0,[],tm0,tm0⟩ bs hs 0 (by decide) (by decide) (by decide) hx3)
 have hs3:=hs.of (z0t hx3).2.2
 refine (w5t fail fu hfu K all hall ⟨#[112,116]⟩ (n + 9) ⟨17,0,0,0,(0,0),(0,0),dc0,[],tm0,tm0⟩ bs hs 0 (by decide) (by decide) (by decide) hx3).trans ?_
 refine z1c rfl (fun v4 r4 hx4=>?_) (fun e hx4=>w2v fail fu hfu K all hall ⟨#[112,116]⟩ (n + 7) ⟨17,v3,0,0,(0,0),(0,0),dc0,[],tm0,tm0⟩ r3 hs3 1 (by decide) (by decide) (by decide) hx4)
 have hs4:=hs3.of (z0w hx4)
 refine (w2u fail fu hfu K all hall ⟨#[112,116]⟩ (n + 8) ⟨17,v3,0,0,(0,0),(0,0),dc0,[],tm0,tm0⟩ r3 hs3 1 (by decide) (by decide) (by decide) hx4).trans ?_
 refine z0f rfl ?_
 refine z0f rfl ?_
 exact lEnd fail fu K all hall ⟨#[112,116]⟩ (n + 7) ⟨17,v3,0,0,(0,0),(0,0),dc0,[],v4,tm0⟩ r4 hs4 2 (by decide)
omit hfu in
theorem rk_18 (n:Nat) (bs:List UInt8) (hs:Sfx all bs):rLp fail fu K all ⟨#[]⟩ (n + 10) ⟨18,0,0,0,(0,0),(0,0),dc0,[],tm0,tm0⟩ (encB all) (atR all bs) 0 0=rqEnd K ((bd (rdIf (fqQ 18) 0 rdNum) fun fuel=>bd (rdIf (fqQ 18) 0 rdNum) fun cells=>bd (rdIf (fqH 18) (0,0) z0i) fun h=>bd (rdIf (fqO 18) (0,0) z0i) fun o=>bd (rdIf (fqD 18) dc0 z1i) fun d=>bd (rdIf (fqP 18) 0 rdNum) fun pa=>bd (rdIf (fqT 18) tm0 z0j) fun t=>bd (rdIf (fqY 18) tm0 z0j) fun ty=>bd (rdIf (fqN 18) [] (rdTxt 24)) fun nm=>rt ⟨18,pa,fuel,cells,h,o,d,nm,t,ty⟩) bs):=by
 refine z0f rfl ?_
 refine z0f rfl ?_
 refine z0f rfl ?_
 refine z0f rfl ?_
 refine z0f rfl ?_
 refine z0f rfl ?_
 refine z0f rfl ?_
 refine z0f rfl ?_
 refine z0f rfl ?_
 exact lEnd fail fu K all hall ⟨#[]⟩ (n + 9) ⟨18,0,0,0,(0,0),(0,0),dc0,[],tm0,tm0⟩ bs hs 0 (by decide)
def rqLet:Nat→ByteArray
 | 1=>⟨#[102]⟩
 | 2=>⟨#[104]⟩
 | 3=>⟨#[100]⟩
 | 4=>⟨#[100]⟩
 | 5=>⟨#[100]⟩
 | 6=>⟨#[112,116]⟩
 | 7=>⟨#[112,116,121]⟩
 | 8=>⟨#[104,111]⟩
 | 9=>⟨#[104,116]⟩
 | 10=>⟨#[104,121]⟩
 | 11=>⟨#[104]⟩
 | 12=>⟨#[104]⟩
 | 13=>⟨#[104]⟩
 | 14=>⟨#[104]⟩
 | 15=>⟨#[104,110]⟩
 | 16=>⟨#[112,116,121]⟩
 | 17=>⟨#[112,116]⟩
 | _=>⟨#[]⟩
omit hfu hall in
theorem k2x (K':ByteArray→Bool→ρ) (k:Nat):p22 fail fu K' (k:Nat)=if 1≤k∧k≤18 then K' (rqLet k) true else K' ⟨#[]⟩ false:=by
 by_cases h:1≤k∧k≤18
 ·rw [if_pos h]
  have:k=1∨k=2∨k=3∨k=4∨k=5∨k=6∨k=7∨k=8∨k=9∨k=10∨k=11∨k=12∨k=13∨k=14∨k=15∨k=16∨k=17∨k=18:=by omega
  rcases this with rfl | rfl | rfl | rfl | rfl | rfl | rfl | rfl | rfl | rfl | rfl | rfl | rfl | rfl | rfl | rfl | rfl | rfl<;>rfl
 ·rw [if_neg h]
  have hn:∀ j:Int,1≤j→j≤18→z0a .eql ((k:Nat):Int) j=false:=fun j h1 h2=>eqlF (by omega)
  have h1:=hn 1 (by decide) (by decide);have h2:=hn 2 (by decide) (by decide);have h3:=hn 3 (by decide) (by decide);have h4:=hn 4 (by decide) (by decide);have h5:=hn 5 (by decide) (by decide);have h6:=hn 6 (by decide) (by decide);have h7:=hn 7 (by decide) (by decide);have h8:=hn 8 (by decide) (by decide);have h9:=hn 9 (by decide) (by decide);have h10:=hn 10 (by decide) (by decide);have h11:=hn 11 (by decide) (by decide);have h12:=hn 12 (by decide) (by decide);have h13:=hn 13 (by decide) (by decide);have h14:=hn 14 (by decide) (by decide);have h15:=hn 15 (by decide) (by decide);have h16:=hn 16 (by decide) (by decide);have h17:=hn 17 (by decide) (by decide);have h18:=hn 18 (by decide) (by decide)
  simp only [p22,p22_1,p22_2,p22_3,p22_4,p22_5,p22_6,p22_7,p22_8,h1,h2,h3,h4,h5,h6,h7,h8,h9,h10,h11,h12,h13,h14,h15,h16,h17,h18,cond_false]
theorem k2j (k:Nat) (hk:1≤k∧k≤18) (n:Nat) (bs:List UInt8) (hs:Sfx all bs):rLp fail fu K all (rqLet k) (n + 10) ⟨k,0,0,0,(0,0),(0,0),dc0,[],tm0,tm0⟩ (encB all) (atR all bs) 0 0=rqEnd K ((bd (rdIf (fqQ k) 0 rdNum) fun fuel=>bd (rdIf (fqQ k) 0 rdNum) fun cells=>bd (rdIf (fqH k) (0,0) z0i) fun h=>bd (rdIf (fqO k) (0,0) z0i) fun o=>bd (rdIf (fqD k) dc0 z1i) fun d=>bd (rdIf (fqP k) 0 rdNum) fun pa=>bd (rdIf (fqT k) tm0 z0j) fun t=>bd (rdIf (fqY k) tm0 z0j) fun ty=>bd (rdIf (fqN k) [] (rdTxt 24)) fun nm=>rt ⟨k,pa,fuel,cells,h,o,d,nm,t,ty⟩) bs):=by
 have:k=1∨k=2∨k=3∨k=4∨k=5∨k=6∨k=7∨k=8∨k=9∨k=10∨k=11∨k=12∨k=13∨k=14∨k=15∨k=16∨k=17∨k=18:=by omega
 rcases this with rfl | rfl | rfl | rfl | rfl | rfl | rfl | rfl | rfl | rfl | rfl | rfl | rfl | rfl | rfl | rfl | rfl | rfl
 ·exact rk_1 fail fu hfu K all hall n bs hs
 ·exact rk_2 fail fu hfu K all hall n bs hs
 ·exact rk_3 fail fu hfu K all hall n bs hs
 ·exact rk_4 fail fu hfu K all hall n bs hs
 ·exact rk_5 fail fu hfu K all hall n bs hs
 ·exact rk_6 fail fu hfu K all hall n bs hs
 ·exact rk_7 fail fu hfu K all hall n bs hs
 ·exact rk_8 fail fu hfu K all hall n bs hs
 ·exact rk_9 fail fu hfu K all hall n bs hs
 ·exact rk_10 fail fu hfu K all hall n bs hs
 ·exact rk_11 fail fu hfu K all hall n bs hs
 ·exact rk_12 fail fu hfu K all hall n bs hs
 ·exact rk_13 fail fu hfu K all hall n bs hs
 ·exact rk_14 fail fu hfu K all hall n bs hs
 ·exact rk_15 fail fu hfu K all hall n bs hs
 ·exact rk_16 fail fu hfu K all hall n bs hs
 ·exact rk_17 fail fu hfu K all hall n bs hs
 ·exact rk_18 fail fu K all hall n bs hs
theorem w9x:p7 fail fu K (encB all)=rqEnd K (rdRq all):=by
 obtain⟨m,hm⟩:∃ m,fu=m + 10:=⟨fu - 10,by omega⟩
 have hl:∀ (k:Nat) (bs:List UInt8) (y4:ByteArray),p7_10L fail fu K (encB all) y4 fu (k:Nat) 0 0 0 0 0 0 0 0 0 0 ⟨#[]⟩ ⟨#[]⟩ 0 0 ⟨#[]⟩ nilE nilE 0 0 ⟨#[]⟩ nilE nilE nilE 0 0 ⟨#[]⟩ nilE nilE 0 0 ⟨#[]⟩ nilE nilE (encB all) (atR all bs) 0 0=rLp fail fu K all y4 (m + 10) ⟨k,0,0,0,(0,0),(0,0),dc0,[],tm0,tm0⟩ (encB all) (atR all bs) 0 0:=fun k bs y4=>by
  rw [← hm,rLp,Rq.nam]
  dsimp only
  cases fqN k<;>rfl
 have h1:=z8x (ρ:=ρ) fail fu (by omega)
 rw [p7,h1 _ all (by omega)]
 unfold rdRq
 have hrk:z2c 0 1073741824 all=match tv 0 all with
   | .ok (v,j)=>if v < 0∨1073741824 < v then .error 5 else .ok (v,all.drop j)
   | .error e=>.error e:=by
  unfold z2c rdV
  cases tv 0 all with
  | error e=>rfl
  | ok x=>obtain⟨v,j⟩:=x;rfl
 cases ht:tv 0 all with
 | error e =>
  have he:=w0f _ _ _ ht
  rw [ht] at hrk
  dsimp only at hrk
  dsimp only [tvK]
  rw [neqT (by omega),cond_true]
  unfold bd;rw [hrk];rfl
 | ok x =>
  obtain⟨v,j⟩:=x
  have hj:=z8o _ _ _ _ ht
  have hu:=w5h ht
  rw [ht] at hrk
  dsimp only at hrk
  dsimp only [tvK]
  rw [neqF rfl,cond_false]
  have e0:0 + v * 2 ^ (7 * 0)=v:=by omega
  have e1:0 + j=j:=by omega
  rw [e0,e1]
  by_cases h100:100 < v
  ·rw [gtrT (by omega),cond_true]
   by_cases h30:v < 0∨1073741824 < v
   ·rw [if_pos h30] at hrk
    unfold bd;rw [hrk];rfl
   ·rw [if_neg h30] at hrk
    rw [bd_ok hrk,if_pos (by omega)];rfl
  ·rw [if_neg (show ¬ (v < 0∨1073741824 < v) by omega)] at hrk
   rw [gtrF (by omega),cond_false,z3h (by omega),k2x,bd_ok hrk]
   by_cases hk:1≤v∧v≤18
   ·rw [if_pos hk,Bool.not_true,cond_false,if_neg (by omega)]
    have hs:Sfx all (all.drop j):=(Sfx.refl all).dropn j
    have hat:((j:Nat):Int)=atR all (all.drop j):=by unfold atR;rw [List.length_drop];omega
    rw [hat,hl]
    exact k2j fail fu hfu K all hall v hk m (all.drop j) hs
   ·rw [if_neg hk,Bool.not_false,cond_true,if_pos (by omega)];rfl
end
def p5_1 {ρ:Type} (fail:ρ) (fu:Nat) (K0:EL→Nat→Nat→ρ) (rec1:EL→Nat→Nat→Int→ρ) (x0 z1:EL) (z2 z3:Nat) (z4:Int):ρ :=
 bif (z0a .lss z4 ((z3:Nat):Int)) then (gd (z3≤z1.length) fail (gd ((0:Int)≤z4) fail (gd ((z4:Int) < (z3:Nat)) fail (gd (((z4:Int).toNat) + 1≤z1.length) fail (gd (0 + 1≤(List.getD z1 ((z4:Int).toNat) []).length) fail (rec1 (List.set z1 ((z4:Int).toNat) (putAt (List.getD z1 ((z4:Int).toNat) []) 0 [(CV.v (.int .u8 229))])) z2 z3 (z0c .add .i64 z4 1))))))) else (gd (z3≤z1.length) fail (gd ((0:Int)≤((x0.length:Nat):Int)) fail (gd ((((x0.length:Nat):Int):Int)≤(z3:Nat)∨true=true∧(((x0.length:Nat):Int):Int)≤(z1.length:Nat)) fail (gd (((((x0.length:Nat):Int):Int).toNat)≤z1.length) fail (K0 z1 z2 ((((x0.length:Nat):Int):Int).toNat))))))
def p5_1L {ρ:Type} (fail:ρ) (fu:Nat) (K0:EL→Nat→Nat→ρ) (x0:EL):Nat→EL→Nat→Nat→Int→ρ
 | 0,_,_,_,_=>fail
 | n + 1,z1,z2,z3,z4=>p5_1 fail fu K0 (p5_1L fail fu K0 x0 n) x0 z1 z2 z3 z4
def p5 {ρ:Type} (fail:ρ) (fu:Nat) (K0:EL→Nat→Nat→ρ) (x0:EL):ρ :=
 gd ((0:Int)≤(z0c .add .i64 ((x0.length:Nat):Int) 3)) fail (gd ((z0c .add .i64 ((x0.length:Nat):Int) 3:Int)≤(z0c .add .i64 ((x0.length:Nat):Int) 3)) fail (gd ((z0c .add .i64 ((x0.length:Nat):Int) 3:Int) * (1:Nat)≤70368744177664) fail (gd (((z0c .add .i64 ((x0.length:Nat):Int) 3:Int).toNat)≤(List.replicate ((z0c .add .i64 ((x0.length:Nat):Int) 3:Int).toNat) [(CV.v (.int .u8 0))]).length) fail (p5_1L fail fu K0 x0 fu (List.take (min x0.length ((z0c .add .i64 ((x0.length:Nat):Int) 3:Int).toNat)) x0++List.drop (min x0.length ((z0c .add .i64 ((x0.length:Nat):Int) 3:Int).toNat)) (List.replicate ((z0c .add .i64 ((x0.length:Nat):Int) 3:Int).toNat) [(CV.v (.int .u8 0))])) ((z0c .add .i64 ((x0.length:Nat):Int) 3:Int).toNat) ((z0c .add .i64 ((x0.length:Nat):Int) 3:Int).toNat) ((x0.length:Nat):Int)))))
def p8_1 {ρ:Type} (fail:ρ) (fu:Nat) (K0:Bool→ρ) (rec1:Int→ρ) (x2 j1:EL) (z4:Int):ρ :=
 bif (z0a .lss z4 (z0c .add .i64 ((x2.length:Nat):Int) 3)) then (gd ((0:Int)≤z4) fail (gd ((z4:Int) < (j1.length:Nat)) fail (rw_u8 fail (List.getD j1 ((z4:Int).toNat) []) (fun c5=>bif (z0a .neq c5 229) then (K0 false) else (rec1 (z0c .add .i64 z4 1)))))) else (K0 true)
def p8_1L {ρ:Type} (fail:ρ) (fu:Nat) (K0:Bool→ρ) (x2 j1:EL):Nat→Int→ρ
 | 0,_=>fail
 | n + 1,z4=>p8_1 fail fu K0 (p8_1L fail fu K0 x2 j1 n) x2 j1 z4
def p8_2 {ρ:Type} (fail:ρ) (fu:Nat) (K0:Bool→ρ) (x2 j1 j2:EL) (j3:Bool):ρ :=
 bif j3 then (K0 false) else (p8_1L fail fu K0 x2 j1 fu ((x2.length:Nat):Int))
def p8 {ρ:Type} (fail:ρ) (fu:Nat) (K0:Bool→ρ) (x0 x1 x2:EL):ρ :=
 gd ((0:Int)≤0) fail (gd ((0:Int)≤((x0.length + x1.length:Nat):Int)) fail (gd ((((x0.length + x1.length:Nat):Int):Int)≤(x0.length + x1.length:Nat)) fail (tobP fail x0 (fun s6=>tobP fail x2 (fun s7=>bif (z2f .neq s6 s7) then (p8_2 fail fu K0 x2 (List.drop ((0:Int).toNat) (List.take ((((x0.length + x1.length:Nat):Int):Int).toNat) (x0++x1))) (List.drop ((((x0.length + x1.length:Nat):Int):Int).toNat) (x0++x1)) true) else (p8_2 fail fu K0 x2 (List.drop ((0:Int).toNat) (List.take ((((x0.length + x1.length:Nat):Int):Int).toNat) (x0++x1))) (List.drop ((((x0.length + x1.length:Nat):Int):Int).toNat) (x0++x1)) (z0a .lss (((List.drop ((0:Int).toNat) (List.take ((((x0.length + x1.length:Nat):Int):Int).toNat) (x0++x1))).length:Nat):Int) (z0c .add .i64 ((x2.length:Nat):Int) 3))))))))
theorem w7l (b:List UInt8):u8E (encB b)=true:=by
 simp [u8E,encB,isU8]
theorem z8k (l:List Lv) (h:∀ a ∈ l,safeR a.row=true):safeE (Lv.rows l)=true:=by
 induction l with
 | nil=>rfl
 | cons a l ih=>rw [Lv.rows,safeE,h a (by simp),ih fun x hx=>h x (by simp [hx])];rfl
mutual
theorem Lv.safe:∀ l:Lv,safeR l.row=true
 | .mk k n l=>by rw [Lv.row];simp [safeR,isU8,safeC,safeP,Lv.safes l]
theorem Lv.safes:∀ l:List Lv,safeE (Lv.rows l)=true
 | []=>rfl
 | a :: l=>by rw [Lv.rows,safeE,Lv.safe a,Lv.safes l];rfl
end
mutual
theorem Tm.safe:∀ l:Tm,safeR l.row=true
 | .mk k n s l a=>by rw [Tm.row];simp [safeR,isU8,safeC,safeP,Lv.safes l,Tm.safes a]
theorem Tm.safes:∀ l:List Tm,safeE (Tm.rows l)=true
 | []=>rfl
 | a :: l=>by rw [Tm.rows,safeE,Tm.safe a,Tm.safes l];rfl
end
theorem k1q (b l:List UInt8) (k:Nat) (hk:k < l.length):List.set (encB (b++l)) (b.length + k) (putAt (List.getD (encB (b++l)) (b.length + k) []) 0 [CV.v (.int .u8 229)])=encB (b++l.set k 229):=by
 rw [w1r (by rw [List.length_append];omega)]
 show List.set (encB (b++l)) (b.length + k) [CV.v (.int .u8 229)]=_
 unfold encB
 rw [show ([CV.v (.int .u8 229)]:List CV)=(fun c:UInt8=>[CV.v (.int .u8 (c.toNat:Int))]) 229 from rfl,← List.map_set]
 congr 1
 rw [List.set_append_right _ _ (by omega)]
 congr 2
 omega
def twinB (b:List UInt8):List UInt8:=b++[229,229,229]
theorem k2i {ρ:Type} (fail:ρ) (fu:Nat) (hf:10≤fu) (K:EL→Nat→Nat→ρ) (b:List UInt8) (hb:b.length≤1099511627776):p5 fail fu K (encB b)=K (encB (twinB b)) (b.length + 3) b.length:=by
 have step:∀ (j k:Nat) (l:List UInt8),l.length=3→k < 3→p5_1L fail fu K (encB b) (j + 1) (encB (b++l)) (b.length + 3) (b.length + 3) ((b.length + k:Nat):Int)=p5_1L fail fu K (encB b) j (encB (b++l.set k 229)) (b.length + 3) (b.length + 3) ((b.length + (k + 1):Nat):Int):=fun j k l hl hk=>by
  have hlen:(encB (b++l)).length=b.length + 3:=by rw [z0h,List.length_append,hl]
  rw [p5_1L,p5_1,lssT (by omega),cond_true,gd_y (by omega),gd_y (by omega),gd_y (by omega),gd_y (by rw [hlen];omega),gd_y (by rw [Int.toNat_natCast,w1r (by rw [List.length_append];omega)];simp),addZ (by omega) (by omega),Int.toNat_natCast,k1q b l k (by omega),show ((b.length + k:Nat):Int) + 1=((b.length + (k + 1):Nat):Int) by omega]
 have e3:z0c .add .i64 ((b.length:Nat):Int) 3=((b.length + 3:Nat):Int):=by rw [addZ (by omega) (by omega)];omega
 have hinit:(List.take (min b.length (b.length + 3)) (encB b)++List.drop (min b.length (b.length + 3)) (List.replicate (b.length + 3) [CV.v (.int .u8 0)]))=encB (b++[0,0,0]):=by
  rw [Nat.min_eq_left (by omega),List.take_of_length_le (by rw [z0h];exact Nat.le_refl _),List.drop_replicate,show b.length + 3 - b.length=3 by omega,z9t];rfl
 obtain⟨j,rfl⟩:∃ j,fu=j + 4:=⟨fu - 4,by omega⟩
 rw [p5,z0h,e3,gd_y (by omega),gd_y (by omega),gd_y (by omega),gd_y (by rw [List.length_replicate];omega),Int.toNat_natCast,hinit]
 refine (step (j + 3) 0 [0,0,0] rfl (by omega)).trans ?_
 rw [step (j + 2) 1 _ rfl (by omega),step (j + 1) 2 _ rfl (by omega)]
 have hend:p5_1L fail (j + 4) K (encB b) (j + 1) (encB (b++(([0,0,0].set 0 229).set (0 + 1) 229).set 2 229)) (b.length + 3) (b.length + 3) ((b.length + (2 + 1):Nat):Int)=K (encB (twinB b)) (b.length + 3) b.length:=by
  have hl2:(encB (twinB b)).length=b.length + 3:=by rw [z0h,twinB,List.length_append];rfl
  show p5_1L fail (j + 4) K (encB b) (j + 1) (encB (twinB b)) (b.length + 3) (b.length + 3) ((b.length + (2 + 1):Nat):Int)=_
  rw [p5_1L,p5_1,lssF (by omega),cond_false,gd_y (by rw [hl2];omega),z0h,gd_y (by omega),gd_y (by left;omega),gd_y (by rw [hl2,Int.toNat_natCast];omega),Int.toNat_natCast]
 exact hend
theorem w7m (b:List UInt8):List.take b.length (encB (twinB b))=encB b:=by
 rw [z6x,twinB,List.take_left]
theorem w7n (b:List UInt8):List.drop b.length (encB (twinB b))=encB [229,229,229]:=by
 rw [z4z,twinB,List.drop_left]
theorem z3o (b:List UInt8):(encB (twinB b)).length=b.length + 3:=by
 rw [z0h,twinB,List.length_append];rfl
theorem k2w {ρ:Type} (fail:ρ) (fu:Nat) (hf:10≤fu) (K:Bool→ρ) (b:List UInt8) (hb:b.length≤1099511627776):p8 fail fu K (encB b) (encB [229,229,229]) (encB b)=K true:=by
 have hal:encB b++encB [229,229,229]=encB (twinB b):=by rw [twinB,z9t]
 have hlen:((encB b).length + (encB [229,229,229]).length:Nat)=b.length + 3:=by rw [z0h];rfl
 have e3:z0c .add .i64 ((b.length:Nat):Int) 3=((b.length + 3:Nat):Int):=by rw [addZ (by omega) (by omega)];omega
 have hj:List.drop (Int.toNat 0) (List.take (((b.length + 3:Nat):Int)).toNat (encB (twinB b)))=encB (twinB b):=by
  rw [Int.toNat_natCast,List.take_of_length_le (by rw [z3o];exact Nat.le_refl _)];rfl
 have step:∀ (j k:Nat),k < 3→p8_1L fail fu K (encB b) (encB (twinB b)) (j + 1) ((b.length + k:Nat):Int)=p8_1L fail fu K (encB b) (encB (twinB b)) j ((b.length + (k + 1):Nat):Int):=fun j k hk=>by
  have hg:∀ c:Int→ρ,rw_u8 fail (List.getD (encB (twinB b)) ((b.length + k:Nat):Int).toNat []) c=c 229:=fun c=>by
   have hlt:b.length + k < (twinB b).length:=by rw [twinB,List.length_append];show _ < _ + 3;omega
   have h9:(twinB b)[b.length + k]=229:=by
    have:k=0∨k=1∨k=2:=by omega
    simp only [twinB]
    rw [List.getElem_append_right (by omega)]
    rcases this with rfl | rfl | rfl<;>simp
   rw [z8t fail _ _ hlt,h9];rfl
  rw [p8_1L,p8_1,z0h,e3,lssT (by omega),cond_true,gd_y (by omega),gd_y (by rw [z3o];omega),hg,neqF rfl,cond_false,addZ (by omega) (by omega),show ((b.length + k:Nat):Int) + 1=((b.length + (k + 1):Nat):Int) by omega]
 obtain⟨j,rfl⟩:∃ j,fu=j + 4:=⟨fu - 4,by omega⟩
 rw [p8,hlen,gd_y (by omega),gd_y (by omega),gd_y (by omega),z1u,z1u,z3y,cond_false,hal,hj,z3o,z0h,e3,lssF (by omega),p8_2,cond_false,z0h]
 refine (step (j + 3) 0 (by omega)).trans ?_
 rw [step (j + 2) 1 (by omega),step (j + 1) 2 (by omega),p8_1L,p8_1,z0h,e3,lssF (by omega),cond_false]
def p28_1 {ρ:Type} (fail:ρ) (fu:Nat) (K0:Bool→ρ) (rec1:Int→ρ) (z2:Int) (j3:Bool):ρ :=
 bif j3 then (K0 false) else (rec1 (z0c .add .i64 z2 1))
def p28_2 {ρ:Type} (fail:ρ) (fu:Nat) (K0:Bool→ρ) (rec1:Int→ρ) (x15 x31:EL) (z2:Int):ρ :=
 bif (z0a .lss z2 ((x15.length:Nat):Int)) then (gd ((0:Int)≤z2) fail (gd ((z2:Int) < (x15.length:Nat)) fail (z0p fail (List.getD x15 ((z2:Int).toNat) []) (fun c4 c5 c6 c7 c8 c9=>gd ((0:Int)≤z2) fail (gd ((z2:Int) < (x31.length:Nat)) fail (z0p fail (List.getD x31 ((z2:Int).toNat) []) (fun c10 c11 c12 c13 c14 c15=>bif (z2f .neq c4 c10) then (p28_1 fail fu K0 rec1 z2 true) else (gd ((0:Int)≤z2) fail (gd ((z2:Int) < (x15.length:Nat)) fail (z0p fail (List.getD x15 ((z2:Int).toNat) []) (fun c16 c17 c18 c19 c20 c21=>gd ((0:Int)≤z2) fail (gd ((z2:Int) < (x31.length:Nat)) fail (z0p fail (List.getD x31 ((z2:Int).toNat) []) (fun c22 c23 c24 c25 c26 c27=>p29 fail fu (fun y28=>p28_1 fail fu K0 rec1 z2 (!y28)) c17 c18 c19 c20 c21 c23 c24 c25 c26 c27)))))))))))))) else (K0 true)
def p28_2L {ρ:Type} (fail:ρ) (fu:Nat) (K0:Bool→ρ) (x15 x31:EL):Nat→Int→ρ
 | 0,_=>fail
 | n + 1,z2=>p28_2 fail fu K0 (p28_2L fail fu K0 x15 x31 n) x15 x31 z2
def p28_3 {ρ:Type} (fail:ρ) (fu:Nat) (K0:Bool→ρ) (x15 x31:EL) (j1:Bool):ρ :=
 bif j1 then (K0 false) else (p28_2L fail fu K0 x15 x31 fu 0)
def p28 {ρ:Type} (fail:ρ) (fu:Nat) (K0:Bool→ρ) (x0 x1 x2:Int) (x3 x4:ByteArray) (x5 x6:Int) (x7:ByteArray) (x8 x9:EL) (x10 x11:Int) (x12:ByteArray) (x13 x14 x15:EL) (x16 x17 x18:Int) (x19 x20:ByteArray) (x21 x22:Int) (x23:ByteArray) (x24 x25:EL) (x26 x27:Int) (x28:ByteArray) (x29 x30 x31:EL):ρ :=
 bif (z0a .neq x0 x16) then (p28_3 fail fu K0 x15 x31 true) else (bif (z0a .neq x1 x17) then (p28_3 fail fu K0 x15 x31 true) else (bif (z0a .neq x2 x18) then (p28_3 fail fu K0 x15 x31 true) else (bif (z2f .neq x3 x19) then (p28_3 fail fu K0 x15 x31 true) else (bif (z2f .neq x4 x20) then (p28_3 fail fu K0 x15 x31 true) else (p29 fail fu (fun y29=>bif (!y29) then (p28_3 fail fu K0 x15 x31 true) else (p29 fail fu (fun y30=>bif (!y30) then (p28_3 fail fu K0 x15 x31 true) else (p28_3 fail fu K0 x15 x31 (z0a .neq ((x15.length:Nat):Int) ((x31.length:Nat):Int)))) x10 x11 x12 x13 x14 x26 x27 x28 x29 x30)) x5 x6 x7 x8 x9 x21 x22 x23 x24 x25)))))
theorem w1t {ρ:Type} (fail:ρ) (l:List (ByteArray × Tm)) (i:Nat) (h:i < l.length) (k:ByteArray→Int→Int→ByteArray→EL→EL→ρ):z0p fail (List.getD (l.map ctRow) (((i:Nat):Int)).toNat []) k=k l[i].1 l[i].2.k l[i].2.n l[i].2.nm (Lv.rows l[i].2.ls) (Tm.rows l[i].2.args):=k3b fail l i h k
theorem k0k {ρ:Type} (fail:ρ) (fu:Nat) (K:Bool→ρ) (l:List (ByteArray × Tm)) (hf:ctsSz l + 60≤fu) (hs:ctsSz l < 1099511627776):∀ (r n i:Nat),i + r=l.length→r < n→p28_2L fail fu K (l.map ctRow) (l.map ctRow) n (i:Nat)=K true:=by
 have hlen:=z9u l
 intro r
 induction r with
 | zero =>
  intro n i hi hn
  obtain⟨n,rfl⟩:∃ m,n=m + 1:=⟨n - 1,by omega⟩
  rw [p28_2L,p28_2,List.length_map,lssF (by omega),cond_false]
 | succ r ih =>
  intro n i hi hn
  obtain⟨n,rfl⟩:∃ m,n=m + 1:=⟨n - 1,by omega⟩
  have hlt:i < l.length:=by omega
  have hm:=w3o (List.getElem_mem hlt)
  rw [p28_2L,p28_2,List.length_map,lssT (by omega),cond_true,gd_y (by omega),gd_y (by omega),w1t fail l i hlt,gd_y (by omega),gd_y (by omega),w1t fail l i hlt,z3y,cond_false,gd_y (by omega),gd_y (by omega),w1t fail l i hlt,gd_y (by omega),gd_y (by omega),w1t fail l i hlt,
   z8p fail _ l[i].2 (Nat.le_refl _) fu _ (by omega) (by omega),Bool.not_true,p28_1,cond_false,addZ (by omega) (by omega),show ((i:Nat):Int) + 1=((i + 1:Nat):Int) by omega]
  exact ih n (i + 1) (by omega) (by omega)
theorem k2a {ρ:Type} (fail:ρ) (fu:Nat) (K:Bool→ρ) (d:Dc) (hf:d.sz + 60≤fu) (hs:d.sz < 1099511627776) :
  p28 fail fu K d.k d.pa d.ct d.nm d.fam d.ty.k d.ty.n d.ty.nm (Lv.rows d.ty.ls) (Tm.rows d.ty.args) d.val.k d.val.n d.val.nm (Lv.rows d.val.ls) (Tm.rows d.val.args) (d.cs.map ctRow) d.k d.pa d.ct d.nm d.fam d.ty.k d.ty.n d.ty.nm (Lv.rows d.ty.ls) (Tm.rows d.ty.args) d.val.k d.val.n d.val.nm (Lv.rows d.val.ls) (Tm.rows d.val.args) (d.cs.map ctRow)=K true:=by
 have hz:d.sz=d.nm.size + d.fam.size + d.ty.sz + d.val.sz + ctsSz d.cs:=rfl
 have hlen:=z9u d.cs
 have:=k0k fail fu K d.cs (by omega) (by omega) d.cs.length fu 0 (by omega) (by omega)
 rw [p28,neqF rfl,cond_false,neqF rfl,cond_false,neqF rfl,cond_false,z3y,cond_false,z3y,cond_false,z8p fail _ d.ty (Nat.le_refl _) fu _ (by omega) (by omega),Bool.not_true,cond_false,z8p fail _ d.val (Nat.le_refl _) fu _ (by omega) (by omega),Bool.not_true,cond_false,neqF rfl,p28_3,cond_false]
 exact this
theorem w6e:∀ (l:List (ByteArray × Tm)),safeE (l.map ctRow)=true
 | []=>rfl
 | a :: l=>by
  rw [List.map_cons,safeE,w6e l,ctRow]
  simp [safeR,isU8,safeC,safeP,Lv.safes,Tm.safes]
def p10_1 {ρ:Type} (fail:ρ) (fu:Nat) (K0:Bool→ρ) (j1:Bool):ρ :=
 K0 j1
def p10 {ρ:Type} (fail:ρ) (fu:Nat) (K0:Bool→ρ) (x0 x1 x2 x3 x4 x5 x6 x7 x8 x9 x10:Int) (x11 x12:ByteArray) (x13 x14:Int) (x15:ByteArray) (x16 x17:EL) (x18 x19:Int) (x20:ByteArray) (x21 x22 x23:EL) (x24 x25:Int) (x26:ByteArray) (x27 x28:EL) (x29 x30:Int) (x31:ByteArray) (x32 x33:EL) (x34 x35 x36 x37 x38 x39 x40 x41 x42 x43 x44:Int) (x45 x46:ByteArray) (x47 x48:Int) (x49:ByteArray) (x50 x51:EL) (x52 x53:Int) (x54:ByteArray) (x55 x56 x57:EL) (x58 x59:Int) (x60:ByteArray) (x61 x62:EL) (x63 x64:Int) (x65:ByteArray) (x66 x67:EL):ρ :=
 bif (z0a .eql x0 x34) then (bif (z0a .eql x1 x35) then (bif (z0a .eql x2 x36) then (bif (z0a .eql x3 x37) then (bif ((z0a .eql x4 x38) && ((z0a .eql x5 x39) && true)) then (bif ((z0a .eql x6 x40) && ((z0a .eql x7 x41) && true)) then (p28 fail fu (fun y2=>bif y2 then (p29 fail fu (fun y3=>bif y3 then (p29 fail fu (fun y4=>p10_1 fail fu K0 y4) x29 x30 x31 x32 x33 x63 x64 x65 x66 x67) else (p10_1 fail fu K0 false)) x24 x25 x26 x27 x28 x58 x59 x60 x61 x62) else (p10_1 fail fu K0 false)) x8 x9 x10 x11 x12 x13 x14 x15 x16 x17 x18 x19 x20 x21 x22 x23 x42 x43 x44 x45 x46 x47 x48 x49 x50 x51 x52 x53 x54 x55 x56 x57) else (p10_1 fail fu K0 false)) else (p10_1 fail fu K0 false)) else (p10_1 fail fu K0 false)) else (p10_1 fail fu K0 false)) else (p10_1 fail fu K0 false)) else (p10_1 fail fu K0 false)
theorem k1r {ρ:Type} (fail:ρ) (fu:Nat) (K:Bool→ρ) (q:Rq) (h1:(Dc.mk q.d.k q.d.pa q.d.ct q.nam q.d.fam q.d.ty q.d.val q.d.cs).sz≤20000) (h2:q.t.sz≤20000) (h3:q.ty.sz≤20000) (hf:20100≤fu) :
  p10 fail fu K (q.k:Nat) (q.pa:Nat) (q.fuel:Nat) (q.cells:Nat) (q.h.1:Nat) (q.h.2:Nat) (q.o.1:Nat) (q.o.2:Nat) q.d.k q.d.pa q.d.ct q.nam q.d.fam q.d.ty.k q.d.ty.n q.d.ty.nm (Lv.rows q.d.ty.ls) (Tm.rows q.d.ty.args) q.d.val.k q.d.val.n q.d.val.nm (Lv.rows q.d.val.ls) (Tm.rows q.d.val.args) (q.d.cs.map ctRow) q.t.k q.t.n q.t.nm (Lv.rows q.t.ls) (Tm.rows q.t.args) q.ty.k q.ty.n q.ty.nm (Lv.rows q.ty.ls) (Tm.rows q.ty.args) (q.k:Nat) (q.pa:Nat) (q.fuel:Nat) (q.cells:Nat) (q.h.1:Nat) (q.h.2:Nat) (q.o.1:Nat) (q.o.2:Nat) q.d.k q.d.pa q.d.ct q.nam q.d.fam q.d.ty.k q.d.ty.n q.d.ty.nm (Lv.rows q.d.ty.ls) (Tm.rows q.d.ty.args) q.d.val.k q.d.val.n q.d.val.nm (Lv.rows q.d.val.ls) (Tm.rows q.d.val.args) (q.d.cs.map ctRow) q.t.k q.t.n q.t.nm (Lv.rows q.t.ls) (Tm.rows q.t.args) q.ty.k q.ty.n q.ty.nm (Lv.rows q.ty.ls) (Tm.rows q.ty.args)=K true:=by
 rw [p10,eqlT rfl,cond_true,eqlT rfl,cond_true,eqlT rfl,cond_true,eqlT rfl,cond_true,eqlT rfl,eqlT rfl,eqlT rfl,eqlT rfl]
 simp only [Bool.true_and,cond_true]
 refine (k2a fail fu _ (Dc.mk q.d.k q.d.pa q.d.ct q.nam q.d.fam q.d.ty q.d.val q.d.cs) (by omega) (by omega)).trans ?_
 rw [cond_true,z8p fail _ q.t (Nat.le_refl _) fu _ (by omega) (by omega),cond_true,z8p fail _ q.ty (Nat.le_refl _) fu _ (by omega) (by omega),p10_1]
theorem z5r {α β:Type} {f:List UInt8→Except Int (α × List UInt8)} {g:α→List UInt8→Except Int (β × List UInt8)} {bs:List UInt8} {x:β × List UInt8} (h:bd f g bs=.ok x):∃ a r,f bs=.ok (a,r)∧g a r=.ok x:=by
 unfold bd at h
 cases hf:f bs with
 | error e=>rw [hf] at h;cases h
 | ok y=>obtain⟨a,r⟩:=y;rw [hf] at h;exact⟨a,r,rfl,h⟩
theorem z6k {α:Type} {c:Bool} {z:α} {f:List UInt8→Except Int (α × List UInt8)} {bs:List UInt8} {a:α} {r:List UInt8} (h:rdIf c z f bs=.ok (a,r)):(c=true∧f bs=.ok (a,r))∨(c=false∧a=z∧r=bs):=by
 cases c with
 | true=>exact .inl ⟨rfl,h⟩
 | false=>unfold rdIf rt at h;rw [if_neg (by decide)] at h;injection h with h;injection h with h1 h2;exact .inr ⟨rfl,h1.symm,h2.symm⟩
theorem z9p {c:Bool} {bs r:List UInt8} {a:Nat} (h:rdIf c 0 rdNum bs=.ok (a,r)):r.length≤bs.length:=by
 rcases z6k h with ⟨_,h⟩ | ⟨_,_,rfl⟩
 ·have:=(z0t h).2.1;omega
 ·omega
theorem w5x {c:Bool} {bs r:List UInt8} {a:Nat × Nat} (h:rdIf c (0,0) z0i bs=.ok (a,r)):r.length≤bs.length:=by
 rcases z6k h with ⟨_,h⟩ | ⟨_,_,rfl⟩
 ·rw [z0n] at h;unfold rdHd at h;split at h
  ·cases h
  ·injection h with h;injection h with _ h;subst h;rw [List.length_drop];omega
 ·omega
theorem w5w {c:Bool} {bs r:List UInt8} {t:Tm} (h:rdIf c tm0 z0j bs=.ok (t,r)):r.length≤bs.length∧t.sz≤2 * bs.length + 10:=by
 rcases z6k h with ⟨_,h⟩ | ⟨_,rfl,rfl⟩
 ·have h1:=congrArg List.length (z0w h);rw [List.length_append] at h1
  have:=z6j h
  exact⟨by omega,by omega⟩
 ·exact⟨Nat.le_refl _,by show 1 + _≤_;simp [Lv.szs,Tm.szs]⟩
theorem w9y {bs:List UInt8} {q:Rq} {r:List UInt8} (h:rdRq bs=.ok (q,r)):(Dc.mk q.d.k q.d.pa q.d.ct q.nam q.d.fam q.d.ty q.d.val q.d.cs).sz≤4 * bs.length + 100∧q.t.sz≤2 * bs.length + 10∧q.ty.sz≤2 * bs.length + 10:=by
 obtain⟨k,b0,g0,h⟩:=z5r h
 have l0:=(z1g g0).2.2.1
 split at h
 ·cases h
 obtain⟨fuel,b1,g1,h⟩:=z5r h
 obtain⟨cells,b2,g2,h⟩:=z5r h
 obtain⟨hh,b3,g3,h⟩:=z5r h
 obtain⟨o,b4,g4,h⟩:=z5r h
 obtain⟨d,b5,g5,h⟩:=z5r h
 obtain⟨pa,b6,g6,h⟩:=z5r h
 obtain⟨t,b7,g7,h⟩:=z5r h
 obtain⟨ty,b8,g8,h⟩:=z5r h
 obtain⟨nm,b9,g9,h⟩:=z5r h
 injection h with h;injection h with h _;subst h
 have l1:=z9p g1
 have l2:=z9p g2
 have l3:=w5x g3
 have l4:=w5x g4
 have l5:b5.length≤b4.length∧d.sz≤2 * b4.length + 10:=by
  rcases z6k g5 with ⟨_,g5⟩ | ⟨_,rfl,rfl⟩
  ·have h1:=congrArg List.length (z2p g5).1;rw [List.length_append] at h1
   have:=(z2p g5).2.1
   exact⟨by omega,by omega⟩
  ·exact⟨Nat.le_refl _,by show 0 + 0 + 1 + 1 + 0≤_;omega⟩
 have l6:=z9p g6
 have l7:=w5w g7
 have l8:=w5w g8
 have l9:nm.length≤24:=by
  rcases z6k g9 with ⟨_,g9⟩ | ⟨_,rfl,_⟩
  ·exact (z1n g9).1
  ·simp
 refine⟨?_,by dsimp only;omega,by dsimp only;omega⟩
 have hz:d.sz=d.nm.size + d.fam.size + d.ty.sz + d.val.sz + ctsSz d.cs:=rfl
 show (Rq.nam ⟨k,pa,fuel,cells,hh,o,d,nm,t,ty⟩).size + d.fam.size + d.ty.sz + d.val.sz + ctsSz d.cs≤_
 have hn:(Rq.nam ⟨k,pa,fuel,cells,hh,o,d,nm,t,ty⟩).size≤24 + d.nm.size:=by
  unfold Rq.nam;dsimp only;split
  ·show nm.toArray.size≤_;rw [List.size_toArray];omega
  ·omega
 omega
def p36_1 {ρ:Type} (fail:ρ) (fu:Nat) (K0:Bool→ρ) (j1:Bool):ρ :=
 K0 j1
def p36 {ρ:Type} (fail:ρ) (fu:Nat) (K0:Bool→ρ) (x0:Int):ρ :=
 bif (z0a .geq x0 0) then (p36_1 fail fu K0 (z0a .leq x0 1073741824)) else (p36_1 fail fu K0 false)
def p76_1 {ρ:Type} (fail:ρ) (fu:Nat) (K0:Int→ρ) (x0:Int) (j2:Bool):ρ :=
 bif j2 then (K0 2) else (bif (z0a .eql x0 6) then (K0 3) else (K0 (-1)))
def p76_2 {ρ:Type} (fail:ρ) (fu:Nat) (K0:Int→ρ) (x0:Int) (j3:Bool):ρ :=
 p76_1 fail fu K0 x0 j3
def p76_3 {ρ:Type} (fail:ρ) (fu:Nat) (K0:Int→ρ) (x0:Int) (j1:Bool):ρ :=
 bif j1 then (K0 0) else (bif (z0a .eql x0 3) then (p76_1 fail fu K0 x0 (z0a .eql x0 3)) else (bif (z0a .eql x0 4) then (p76_2 fail fu K0 x0 (z0a .eql x0 4)) else (p76_2 fail fu K0 x0 (z0a .eql x0 5))))
def p76_4 {ρ:Type} (fail:ρ) (fu:Nat) (K0:Int→ρ) (x0:Int) (j4:Bool):ρ :=
 p76_3 fail fu K0 x0 j4
def p76 {ρ:Type} (fail:ρ) (fu:Nat) (K0:Int→ρ) (x0:Int):ρ :=
 bif (z0a .eql x0 0) then (p76_3 fail fu K0 x0 (z0a .eql x0 0)) else (bif (z0a .eql x0 1) then (p76_4 fail fu K0 x0 (z0a .eql x0 1)) else (p76_4 fail fu K0 x0 (z0a .eql x0 2)))
def p74_1 {ρ:Type} (fail:ρ) (fu:Nat) (K0:Bool→ρ) (j4:Bool):ρ :=
 K0 j4
def p74_2 {ρ:Type} (fail:ρ) (fu:Nat) (K0:Bool→ρ) (x0:Int) (x3:EL) (j2 j3:Bool):ρ :=
 bif j3 then (K0 false) else (bif (z0a .eql x0 1) then (K0 (z0a .eql ((x3.length:Nat):Int) 1)) else (bif j2 then (p74_1 fail fu K0 true) else (p74_1 fail fu K0 (z0a .eql ((x3.length:Nat):Int) 0))))
def p74_3 {ρ:Type} (fail:ρ) (fu:Nat) (K0:Bool→ρ) (x0:Int) (x3:EL) (j6 j8:Bool):ρ :=
 p74_2 fail fu K0 x0 x3 j6 j8
def p74_4 {ρ:Type} (fail:ρ) (fu:Nat) (K0:Bool→ρ) (x0:Int) (x3:EL) (j6 j10:Bool):ρ :=
 p74_3 fail fu K0 x0 x3 j6 j10
def p74_5 {ρ:Type} (fail:ρ) (fu:Nat) (K0:Bool→ρ) (x0:Int) (x3:EL) (j6 j11:Bool):ρ :=
 p74_4 fail fu K0 x0 x3 j6 j11
def p74_6 {ρ:Type} (fail:ρ) (fu:Nat) (K0:Bool→ρ) (x0:Int) (x2:ByteArray) (x3:EL) (j6 j9:Bool):ρ :=
 bif j9 then (p74_4 fail fu K0 x0 x3 j6 j9) else (bif (!j6) then (p74_5 fail fu K0 x0 x3 j6 (z2f .neq x2 ⟨#[]⟩)) else (p74_5 fail fu K0 x0 x3 j6 false))
def p74_7 {ρ:Type} (fail:ρ) (fu:Nat) (K0:Bool→ρ) (x0 x1:Int) (x2:ByteArray) (x3:EL) (j5 j6 j7:Bool):ρ :=
 bif j7 then (p74_3 fail fu K0 x0 x3 j6 j7) else (bif (!j5) then (p74_6 fail fu K0 x0 x2 x3 j6 (z0a .neq x1 0)) else (p74_6 fail fu K0 x0 x2 x3 j6 false))
def p74 {ρ:Type} (fail:ρ) (fu:Nat) (K0:Bool→ρ) (x0 x1:Int) (x2:ByteArray) (x3 x4:EL):ρ :=
 p76 fail fu (fun y1=>bif (z0a .neq y1 ((x4.length:Nat):Int)) then (p74_2 fail fu K0 x0 x3 (z0a .eql x0 2) (z0a .neq y1 ((x4.length:Nat):Int))) else (bif (z0a .eql x0 0) then (bif (z0a .lss x1 0) then (p74_7 fail fu K0 x0 x1 x2 x3 (z0a .eql x0 0) (z0a .eql x0 2) true) else (p74_7 fail fu K0 x0 x1 x2 x3 (z0a .eql x0 0) (z0a .eql x0 2) (z0a .gtr x1 1073741824))) else (p74_7 fail fu K0 x0 x1 x2 x3 (z0a .eql x0 0) (z0a .eql x0 2) false))) x0
def p67_1 {ρ:Type} (fail:ρ) (fu:Nat) (s_p67:(Bool→Int→ρ)→Int→Int→ByteArray→EL→EL→Int→Int→ρ) (K0:Bool→Int→ρ) (rec1:Int→Int→Int→ρ) (x4:EL) (x6 z2 z3 z4:Int):ρ :=
 bif (z0a .lss z4 z3) then (gd ((0:Int)≤z4) fail (gd ((z4:Int) < (x4.length:Nat)) fail (z0q fail (List.getD x4 ((z4:Int).toNat) []) (fun c5 c6 c7 c8 c9=>s_p67 (fun y10 y11=>bif (!y10) then (K0 false y11) else (bif (z0a .gtr y11 x6) then (K0 true y11) else (rec1 y11 z3 (z0c .add .i64 z4 1)))) c5 c6 c7 c8 c9 z2 x6)))) else (K0 true z2)
def p67_1L {ρ:Type} (fail:ρ) (fu:Nat) (s_p67:(Bool→Int→ρ)→Int→Int→ByteArray→EL→EL→Int→Int→ρ) (K0:Bool→Int→ρ) (x4:EL) (x6:Int):Nat→Int→Int→Int→ρ
 | 0,_,_,_=>fail
 | n + 1,z2,z3,z4=>p67_1 fail fu s_p67 K0 (p67_1L fail fu s_p67 K0 x4 x6 n) x4 x6 z2 z3 z4
def p67_b {ρ:Type} (fail:ρ) (fu:Nat) (s_p67:(Bool→Int→ρ)→Int→Int→ByteArray→EL→EL→Int→Int→ρ) (K0:Bool→Int→ρ) (x0 x1:Int) (x2:ByteArray) (x3 x4:EL) (x5 x6:Int):ρ :=
 bif (z0a .gtr (z0c .add .i64 x5 1) x6) then (K0 true (z0c .add .i64 x5 1)) else (p74 fail fu (fun y1=>bif (!y1) then (K0 false (z0c .add .i64 x5 1)) else (p67_1L fail fu s_p67 K0 x4 x6 fu (z0c .add .i64 x5 1) ((x4.length:Nat):Int) 0)) x0 x1 x2 x3 x4)
def p67 {ρ:Type} (fail:ρ):Nat→(Bool→Int→ρ)→Int→Int→ByteArray→EL→EL→Int→Int→ρ
 | 0,_,_,_,_,_,_,_,_=>fail
 | n + 1,K0,x0,x1,x2,x3,x4,x5,x6=>p67_b fail n (p67 fail n) K0 x0 x1 x2 x3 x4 x5 x6
def p55 {ρ:Type} (fail:ρ) (fu:Nat) (K0:Int→Bool→ρ) (x0 x1:Int) (x2:ByteArray) (x3 x4:EL) (x5:Int):ρ :=
 p67 fail fu (fun y1 y2=>K0 y2 y1) x0 x1 x2 x3 x4 0 x5
def p56_1 {ρ:Type} (fail:ρ) (fu:Nat) (s_p56:(Int→ρ)→Int→Int→ByteArray→EL→EL→Int→ρ) (K0:Int→ρ) (rec1:Int→Int→Int→Int→ρ) (x4:EL) (z1 z2 z3 z4:Int):ρ :=
 bif (z0a .lss z4 z3) then (gd ((0:Int)≤z4) fail (gd ((z4:Int) < (x4.length:Nat)) fail (z0q fail (List.getD x4 ((z4:Int).toNat) []) (fun c5 c6 c7 c8 c9=>s_p56 (fun y10=>bif (z0a .gtr (if z0c .add .i64 1 y10 > z2 then z0c .add .i64 1 y10 else z2) z1) then (K0 (if z0c .add .i64 1 y10 > z2 then z0c .add .i64 1 y10 else z2)) else (rec1 z1 (if z0c .add .i64 1 y10 > z2 then z0c .add .i64 1 y10 else z2) z3 (z0c .add .i64 z4 1))) c5 c6 c7 c8 c9 (z0c .sub .i64 z1 1))))) else (K0 z2)
def p56_1L {ρ:Type} (fail:ρ) (fu:Nat) (s_p56:(Int→ρ)→Int→Int→ByteArray→EL→EL→Int→ρ) (K0:Int→ρ) (x4:EL):Nat→Int→Int→Int→Int→ρ
 | 0,_,_,_,_=>fail
 | n + 1,z1,z2,z3,z4=>p56_1 fail fu s_p56 K0 (p56_1L fail fu s_p56 K0 x4 n) x4 z1 z2 z3 z4
def p56_b {ρ:Type} (fail:ρ) (fu:Nat) (s_p56:(Int→ρ)→Int→Int→ByteArray→EL→EL→Int→ρ) (K0:Int→ρ) (x0 x1:Int) (x2:ByteArray) (x3 x4:EL) (x5:Int):ρ :=
 bif (z0a .eql (if 0 > x5 then 0 else x5) 0) then (K0 1) else (p56_1L fail fu s_p56 K0 x4 fu (if 0 > x5 then 0 else x5) 1 ((x4.length:Nat):Int) 0)
def p56 {ρ:Type} (fail:ρ):Nat→(Int→ρ)→Int→Int→ByteArray→EL→EL→Int→ρ
 | 0,_,_,_,_,_,_,_=>fail
 | n + 1,K0,x0,x1,x2,x3,x4,x5=>p56_b fail n (p56 fail n) K0 x0 x1 x2 x3 x4 x5
def p77_1 {ρ:Type} (fail:ρ) (fu:Nat) (K0:Int→ρ) (j2:Bool):ρ :=
 bif j2 then (K0 2) else (K0 (-1))
def p77_2 {ρ:Type} (fail:ρ) (fu:Nat) (K0:Int→ρ) (x0:Int) (j1:Bool):ρ :=
 bif j1 then (K0 0) else (bif (z0a .eql x0 1) then (K0 1) else (bif (z0a .eql x0 2) then (p77_1 fail fu K0 (z0a .eql x0 2)) else (p77_1 fail fu K0 (z0a .eql x0 3))))
def p77 {ρ:Type} (fail:ρ) (fu:Nat) (K0:Int→ρ) (x0:Int):ρ :=
 bif (z0a .eql x0 0) then (p77_2 fail fu K0 x0 (z0a .eql x0 0)) else (p77_2 fail fu K0 x0 (z0a .eql x0 4))
def p75_1 {ρ:Type} (fail:ρ) (fu:Nat) (s_p75:(Bool→Int→ρ)→Int→Int→EL→Int→Int→Int→ρ) (K0:Bool→Int→ρ) (rec1:Int→Int→Int→ρ) (x2:EL) (x3 x4 z4 z5 z6:Int):ρ :=
 bif (z0a .lss z6 z5) then (gd ((0:Int)≤z6) fail (gd ((z6:Int) < (x2.length:Nat)) fail (z0y fail (List.getD x2 ((z6:Int).toNat) []) (fun c7 c8 c9=>s_p75 (fun y10 y11=>bif (!y10) then (K0 false y11) else (rec1 y11 z5 (z0c .add .i64 z6 1))) c7 c8 c9 x3 (z0c .add .i64 x4 1) z4)))) else (K0 true z4)
def p75_1L {ρ:Type} (fail:ρ) (fu:Nat) (s_p75:(Bool→Int→ρ)→Int→Int→EL→Int→Int→Int→ρ) (K0:Bool→Int→ρ) (x2:EL) (x3 x4:Int):Nat→Int→Int→Int→ρ
 | 0,_,_,_=>fail
 | n + 1,z4,z5,z6=>p75_1 fail fu s_p75 K0 (p75_1L fail fu s_p75 K0 x2 x3 x4 n) x2 x3 x4 z4 z5 z6
def p75_2 {ρ:Type} (fail:ρ) (fu:Nat) (s_p75:(Bool→Int→ρ)→Int→Int→EL→Int→Int→Int→ρ) (K0:Bool→Int→ρ) (x2:EL) (x3 x4 j1:Int) (j3:Bool):ρ :=
 bif j3 then (K0 false j1) else (p75_1L fail fu s_p75 K0 x2 x3 x4 fu j1 ((x2.length:Nat):Int) 0)
def p75_3 {ρ:Type} (fail:ρ) (fu:Nat) (s_p75:(Bool→Int→ρ)→Int→Int→EL→Int→Int→Int→ρ) (K0:Bool→Int→ρ) (x0 x1:Int) (x2:EL) (x3 x4 j1:Int) (j2:Bool):ρ :=
 bif j2 then (K0 false j1) else (bif (z0a .eql x0 4) then (bif (z0a .lss x1 0) then (p75_2 fail fu s_p75 K0 x2 x3 x4 j1 true) else (bif (z0a .geq x1 x3) then (p75_2 fail fu s_p75 K0 x2 x3 x4 j1 true) else (p75_2 fail fu s_p75 K0 x2 x3 x4 j1 false))) else (p75_2 fail fu s_p75 K0 x2 x3 x4 j1 (z0a .neq x1 0)))
def p75_b {ρ:Type} (fail:ρ) (fu:Nat) (s_p75:(Bool→Int→ρ)→Int→Int→EL→Int→Int→Int→ρ) (K0:Bool→Int→ρ) (x0 x1:Int) (x2:EL) (x3 x4 x5:Int):ρ :=
 bif (z0a .gtr x4 32) then (p75_3 fail fu s_p75 K0 x0 x1 x2 x3 x4 (z0c .add .i64 x5 1) true) else (bif (z0a .gtr (z0c .add .i64 x5 1) 64) then (p75_3 fail fu s_p75 K0 x0 x1 x2 x3 x4 (z0c .add .i64 x5 1) true) else (p77 fail fu (fun y12=>p75_3 fail fu s_p75 K0 x0 x1 x2 x3 x4 (z0c .add .i64 x5 1) (z0a .neq y12 ((x2.length:Nat):Int))) x0))
def p75 {ρ:Type} (fail:ρ):Nat→(Bool→Int→ρ)→Int→Int→EL→Int→Int→Int→ρ
 | 0,_,_,_,_,_,_,_=>fail
 | n + 1,K0,x0,x1,x2,x3,x4,x5=>p75_b fail n (p75 fail n) K0 x0 x1 x2 x3 x4 x5
def p68 {ρ:Type} (fail:ρ) (fu:Nat) (K0:Bool→ρ) (x0 x1:Int) (x2:EL) (x3:Int):ρ :=
 p75 fail fu (fun y1 y2=>K0 y1) x0 x1 x2 (if 4 < (if 0 > x3 then 0 else x3) then 4 else (if 0 > x3 then 0 else x3)) 1 0
def p57_1 {ρ:Type} (fail:ρ) (fu:Nat) (s_p57:(Bool→ρ)→Int→Int→ByteArray→EL→EL→ρ) (K0:Bool→ρ) (rec2:Int→Int→ρ) (x4:EL) (z8 z9:Int):ρ :=
 bif (z0a .lss z9 z8) then (gd ((0:Int)≤z9) fail (gd ((z9:Int) < (x4.length:Nat)) fail (z0q fail (List.getD x4 ((z9:Int).toNat) []) (fun c10 c11 c12 c13 c14=>s_p57 (fun y15=>bif (!y15) then (K0 false) else (rec2 z8 (z0c .add .i64 z9 1))) c10 c11 c12 c13 c14)))) else (K0 true)
def p57_1L {ρ:Type} (fail:ρ) (fu:Nat) (s_p57:(Bool→ρ)→Int→Int→ByteArray→EL→EL→ρ) (K0:Bool→ρ) (x4:EL):Nat→Int→Int→ρ
 | 0,_,_=>fail
 | n + 1,z8,z9=>p57_1 fail fu s_p57 K0 (p57_1L fail fu s_p57 K0 x4 n) x4 z8 z9
def p57_2 {ρ:Type} (fail:ρ) (fu:Nat) (s_p57:(Bool→ρ)→Int→Int→ByteArray→EL→EL→ρ) (K0:Bool→ρ) (rec1:Int→Int→ρ) (x3 x4:EL) (z2 z3:Int):ρ :=
 bif (z0a .lss z3 z2) then (gd ((0:Int)≤z3) fail (gd ((z3:Int) < (x3.length:Nat)) fail (z0y fail (List.getD x3 ((z3:Int).toNat) []) (fun c4 c5 c6=>p68 fail fu (fun y7=>bif (!y7) then (K0 false) else (rec1 z2 (z0c .add .i64 z3 1))) c4 c5 c6 4)))) else (p57_1L fail fu s_p57 K0 x4 fu ((x4.length:Nat):Int) 0)
def p57_2L {ρ:Type} (fail:ρ) (fu:Nat) (s_p57:(Bool→ρ)→Int→Int→ByteArray→EL→EL→ρ) (K0:Bool→ρ) (x3 x4:EL):Nat→Int→Int→ρ
 | 0,_,_=>fail
 | n + 1,z2,z3=>p57_2 fail fu s_p57 K0 (p57_2L fail fu s_p57 K0 x3 x4 n) x3 x4 z2 z3
def p57_3 {ρ:Type} (fail:ρ) (fu:Nat) (s_p57:(Bool→ρ)→Int→Int→ByteArray→EL→EL→ρ) (K0:Bool→ρ) (x3 x4:EL) (j1:Bool):ρ :=
 bif j1 then (K0 false) else (p57_2L fail fu s_p57 K0 x3 x4 fu ((x3.length:Nat):Int) 0)
def p57_b {ρ:Type} (fail:ρ) (fu:Nat) (s_p57:(Bool→ρ)→Int→Int→ByteArray→EL→EL→ρ) (K0:Bool→ρ) (x0 x1:Int) (x2:ByteArray) (x3 x4:EL):ρ :=
 bif (z0a .gtr ((x3.length:Nat):Int) 4) then (p57_3 fail fu s_p57 K0 x3 x4 true) else (p57_3 fail fu s_p57 K0 x3 x4 (z0a .gtr ((x2.size:Nat):Int) 24))
def p57 {ρ:Type} (fail:ρ):Nat→(Bool→ρ)→Int→Int→ByteArray→EL→EL→ρ
 | 0,_,_,_,_,_,_=>fail
 | n + 1,K0,x0,x1,x2,x3,x4=>p57_b fail n (p57 fail n) K0 x0 x1 x2 x3 x4
def p37_1 {ρ:Type} (fail:ρ) (fu:Nat) (K0:Bool→ρ) (j3:Bool):ρ :=
 K0 j3
def p37 {ρ:Type} (fail:ρ) (fu:Nat) (K0:Bool→ρ) (x0 x1:Int) (x2:ByteArray) (x3 x4:EL):ρ :=
 p55 fail fu (fun y1 y2=>bif y2 then (bif (z0a .leq y1 2000) then (p56 fail fu (fun y4=>bif (z0a .leq y4 100) then (p57 fail fu (fun y5=>p37_1 fail fu K0 y5) x0 x1 x2 x3 x4) else (p37_1 fail fu K0 false)) x0 x1 x2 x3 x4 100) else (p37_1 fail fu K0 false)) else (p37_1 fail fu K0 false)) x0 x1 x2 x3 x4 2000
def p38 {ρ:Type} (fail:ρ) (fu:Nat) (K0:Bool→ρ) (x0 x1:Int) (x2:ByteArray) (x3 x4:EL):ρ :=
 p58 fail fu (fun y1=>K0 y1) x0 x1 x2 x3 x4 0 0 ⟨#[]⟩ nilE nilE
def p39_1 {ρ:Type} (fail:ρ) (fu:Nat) (K0:Bool→ρ) (rec1:Int→Int→ρ) (z3 z4:Int) (j11:Bool):ρ :=
 bif j11 then (K0 false) else (rec1 z3 (z0c .add .i64 z4 1))
def p39_2 {ρ:Type} (fail:ρ) (fu:Nat) (K0:Bool→ρ) (rec1:Int→Int→ρ) (x15:EL) (z3 z4:Int):ρ :=
 bif (z0a .lss z4 z3) then (gd ((0:Int)≤z4) fail (gd ((z4:Int) < (x15.length:Nat)) fail (z0p fail (List.getD x15 ((z4:Int).toNat) []) (fun c5 c6 c7 c8 c9 c10=>bif (z0a .gtr ((c5.size:Nat):Int) 24) then (p39_1 fail fu K0 rec1 z3 z4 true) else (p37 fail fu (fun y12=>p39_1 fail fu K0 rec1 z3 z4 (!y12)) c6 c7 c8 c9 c10))))) else (K0 true)
def p39_2L {ρ:Type} (fail:ρ) (fu:Nat) (K0:Bool→ρ) (x15:EL):Nat→Int→Int→ρ
 | 0,_,_=>fail
 | n + 1,z3,z4=>p39_2 fail fu K0 (p39_2L fail fu K0 x15 n) x15 z3 z4
def p39_3 {ρ:Type} (fail:ρ) (fu:Nat) (K0:Bool→ρ) (x15:EL) (j2:Bool):ρ :=
 bif j2 then (K0 false) else (p39_2L fail fu K0 x15 fu ((x15.length:Nat):Int) 0)
def p39_4 {ρ:Type} (fail:ρ) (fu:Nat) (K0:Bool→ρ) (x0 x5 x6:Int) (x7:ByteArray) (x8 x9:EL) (x10 x11:Int) (x12:ByteArray) (x13 x14 x15:EL) (j1:Bool):ρ :=
 bif j1 then (K0 false) else (p37 fail fu (fun y13=>bif (!y13) then (p39_3 fail fu K0 x15 true) else (bif (z0a .eql x0 2) then (p37 fail fu (fun y14=>bif (!y14) then (p39_3 fail fu K0 x15 true) else (p39_3 fail fu K0 x15 false)) x10 x11 x12 x13 x14) else (p38 fail fu (fun y15=>p39_3 fail fu K0 x15 (!y15)) x10 x11 x12 x13 x14))) x5 x6 x7 x8 x9)
def p39 {ρ:Type} (fail:ρ) (fu:Nat) (K0:Bool→ρ) (x0 x1 x2:Int) (x3 x4:ByteArray) (x5 x6:Int) (x7:ByteArray) (x8 x9:EL) (x10 x11:Int) (x12:ByteArray) (x13 x14 x15:EL):ρ :=
 bif (z0a .lss x0 1) then (p39_4 fail fu K0 x0 x5 x6 x7 x8 x9 x10 x11 x12 x13 x14 x15 true) else (bif (z0a .gtr x0 5) then (p39_4 fail fu K0 x0 x5 x6 x7 x8 x9 x10 x11 x12 x13 x14 x15 true) else (p36 fail fu (fun y16=>bif (!y16) then (p39_4 fail fu K0 x0 x5 x6 x7 x8 x9 x10 x11 x12 x13 x14 x15 true) else (p36 fail fu (fun y17=>bif (!y17) then (p39_4 fail fu K0 x0 x5 x6 x7 x8 x9 x10 x11 x12 x13 x14 x15 true) else (bif (z0a .gtr ((x3.size:Nat):Int) 24) then (p39_4 fail fu K0 x0 x5 x6 x7 x8 x9 x10 x11 x12 x13 x14 x15 true) else (bif (z0a .gtr ((x4.size:Nat):Int) 24) then (p39_4 fail fu K0 x0 x5 x6 x7 x8 x9 x10 x11 x12 x13 x14 x15 true) else (p39_4 fail fu K0 x0 x5 x6 x7 x8 x9 x10 x11 x12 x13 x14 x15 (z0a .gtr ((x15.length:Nat):Int) 5))))) x2)) x1))
def p40_1 {ρ:Type} (fail:ρ) (fu:Nat) (K0:Bool→ρ) (j1:Bool):ρ :=
 K0 j1
def p40 {ρ:Type} (fail:ρ) (fu:Nat) (K0:Bool→ρ) (x0 x1 x2:Int) (x3 x4:ByteArray) (x5 x6:Int) (x7:ByteArray) (x8 x9:EL) (x10 x11:Int) (x12:ByteArray) (x13 x14 x15:EL):ρ :=
 bif (z0a .eql x0 0) then (bif (z0a .eql x1 0) then (bif (z0a .eql x2 0) then (bif (z2f .eql x4 ⟨#[]⟩) then (p38 fail fu (fun y2=>bif y2 then (p38 fail fu (fun y3=>bif y3 then (p40_1 fail fu K0 (z0a .eql ((x15.length:Nat):Int) 0)) else (p40_1 fail fu K0 false)) x10 x11 x12 x13 x14) else (p40_1 fail fu K0 false)) x5 x6 x7 x8 x9) else (p40_1 fail fu K0 false)) else (p40_1 fail fu K0 false)) else (p40_1 fail fu K0 false)) else (p40_1 fail fu K0 false)
def p12_1 {ρ:Type} (fail:ρ) (fu:Nat) (K0:Bool→ρ) (j21:Bool):ρ :=
 K0 j21
def p12_2 {ρ:Type} (fail:ρ) (fu:Nat) (K0:Bool→ρ) (j23:Bool):ρ :=
 K0 j23
def p12_3 {ρ:Type} (fail:ρ) (fu:Nat) (K0:Bool→ρ) (x8 x9 x10:Int) (x11 x12:ByteArray) (x13 x14:Int) (x15:ByteArray) (x16 x17:EL) (x18 x19:Int) (x20:ByteArray) (x21 x22 x23:EL) (y4 y8 j19:Bool):ρ :=
 bif j19 then (K0 false) else (bif y4 then (p39 fail fu (fun y20=>K0 y20) x8 x9 x10 x11 x12 x13 x14 x15 x16 x17 x18 x19 x20 x21 x22 x23) else (bif y8 then (p40 fail fu (fun y22=>bif y22 then (p12_1 fail fu K0 (z0a .leq ((x11.size:Nat):Int) 24)) else (p12_1 fail fu K0 false)) x8 x9 x10 x11 x12 x13 x14 x15 x16 x17 x18 x19 x20 x21 x22 x23) else (p40 fail fu (fun y24=>bif y24 then (p12_2 fail fu K0 (z2f .eql x11 ⟨#[]⟩)) else (p12_2 fail fu K0 false)) x8 x9 x10 x11 x12 x13 x14 x15 x16 x17 x18 x19 x20 x21 x22 x23)))
def p12_4 {ρ:Type} (fail:ρ) (fu:Nat) (K0:Bool→ρ) (x8 x9 x10:Int) (x11 x12:ByteArray) (x13 x14:Int) (x15:ByteArray) (x16 x17:EL) (x18 x19:Int) (x20:ByteArray) (x21 x22 x23:EL) (y4 y8 j25:Bool):ρ :=
 p12_3 fail fu K0 x8 x9 x10 x11 x12 x13 x14 x15 x16 x17 x18 x19 x20 x21 x22 x23 y4 y8 j25
def p12_5 {ρ:Type} (fail:ρ) (fu:Nat) (K0:Bool→ρ) (x8 x9 x10:Int) (x11 x12:ByteArray) (x13 x14:Int) (x15:ByteArray) (x16 x17:EL) (x18 x19:Int) (x20:ByteArray) (x21 x22 x23:EL) (x29 x30:Int) (x31:ByteArray) (x32 x33:EL) (y4 y7 y8 j18:Bool):ρ :=
 bif j18 then (p12_3 fail fu K0 x8 x9 x10 x11 x12 x13 x14 x15 x16 x17 x18 x19 x20 x21 x22 x23 y4 y8 j18) else (bif (!y7) then (p38 fail fu (fun y26=>p12_4 fail fu K0 x8 x9 x10 x11 x12 x13 x14 x15 x16 x17 x18 x19 x20 x21 x22 x23 y4 y8 (!y26)) x29 x30 x31 x32 x33) else (p12_4 fail fu K0 x8 x9 x10 x11 x12 x13 x14 x15 x16 x17 x18 x19 x20 x21 x22 x23 y4 y8 false))
def p12_6 {ρ:Type} (fail:ρ) (fu:Nat) (K0:Bool→ρ) (x8 x9 x10:Int) (x11 x12:ByteArray) (x13 x14:Int) (x15:ByteArray) (x16 x17:EL) (x18 x19:Int) (x20:ByteArray) (x21 x22 x23:EL) (x29 x30:Int) (x31:ByteArray) (x32 x33:EL) (y4 y7 y8 j17:Bool):ρ :=
 bif j17 then (K0 false) else (bif y7 then (p37 fail fu (fun y27=>p12_5 fail fu K0 x8 x9 x10 x11 x12 x13 x14 x15 x16 x17 x18 x19 x20 x21 x22 x23 x29 x30 x31 x32 x33 y4 y7 y8 (!y27)) x29 x30 x31 x32 x33) else (p12_5 fail fu K0 x8 x9 x10 x11 x12 x13 x14 x15 x16 x17 x18 x19 x20 x21 x22 x23 x29 x30 x31 x32 x33 y4 y7 y8 false))
def p12_7 {ρ:Type} (fail:ρ) (fu:Nat) (K0:Bool→ρ) (x8 x9 x10:Int) (x11 x12:ByteArray) (x13 x14:Int) (x15:ByteArray) (x16 x17:EL) (x18 x19:Int) (x20:ByteArray) (x21 x22 x23:EL) (x29 x30:Int) (x31:ByteArray) (x32 x33:EL) (y4 y7 y8 j28:Bool):ρ :=
 p12_6 fail fu K0 x8 x9 x10 x11 x12 x13 x14 x15 x16 x17 x18 x19 x20 x21 x22 x23 x29 x30 x31 x32 x33 y4 y7 y8 j28
def p12_8 {ρ:Type} (fail:ρ) (fu:Nat) (K0:Bool→ρ) (x8 x9 x10:Int) (x11 x12:ByteArray) (x13 x14:Int) (x15:ByteArray) (x16 x17:EL) (x18 x19:Int) (x20:ByteArray) (x21 x22 x23:EL) (x24 x25:Int) (x26:ByteArray) (x27 x28:EL) (x29 x30:Int) (x31:ByteArray) (x32 x33:EL) (y4 y6 y7 y8 j16:Bool):ρ :=
 bif j16 then (p12_6 fail fu K0 x8 x9 x10 x11 x12 x13 x14 x15 x16 x17 x18 x19 x20 x21 x22 x23 x29 x30 x31 x32 x33 y4 y7 y8 j16) else (bif (!y6) then (p38 fail fu (fun y29=>p12_7 fail fu K0 x8 x9 x10 x11 x12 x13 x14 x15 x16 x17 x18 x19 x20 x21 x22 x23 x29 x30 x31 x32 x33 y4 y7 y8 (!y29)) x24 x25 x26 x27 x28) else (p12_7 fail fu K0 x8 x9 x10 x11 x12 x13 x14 x15 x16 x17 x18 x19 x20 x21 x22 x23 x29 x30 x31 x32 x33 y4 y7 y8 false))
def p12_9 {ρ:Type} (fail:ρ) (fu:Nat) (K0:Bool→ρ) (x8 x9 x10:Int) (x11 x12:ByteArray) (x13 x14:Int) (x15:ByteArray) (x16 x17:EL) (x18 x19:Int) (x20:ByteArray) (x21 x22 x23:EL) (x24 x25:Int) (x26:ByteArray) (x27 x28:EL) (x29 x30:Int) (x31:ByteArray) (x32 x33:EL) (y4 y6 y7 y8 j15:Bool):ρ :=
 bif j15 then (K0 false) else (bif y6 then (p37 fail fu (fun y30=>p12_8 fail fu K0 x8 x9 x10 x11 x12 x13 x14 x15 x16 x17 x18 x19 x20 x21 x22 x23 x24 x25 x26 x27 x28 x29 x30 x31 x32 x33 y4 y6 y7 y8 (!y30)) x24 x25 x26 x27 x28) else (p12_8 fail fu K0 x8 x9 x10 x11 x12 x13 x14 x15 x16 x17 x18 x19 x20 x21 x22 x23 x24 x25 x26 x27 x28 x29 x30 x31 x32 x33 y4 y6 y7 y8 false))
def p12_10 {ρ:Type} (fail:ρ) (fu:Nat) (K0:Bool→ρ) (x8 x9 x10:Int) (x11 x12:ByteArray) (x13 x14:Int) (x15:ByteArray) (x16 x17:EL) (x18 x19:Int) (x20:ByteArray) (x21 x22 x23:EL) (x24 x25:Int) (x26:ByteArray) (x27 x28:EL) (x29 x30:Int) (x31:ByteArray) (x32 x33:EL) (y4 y6 y7 y8 j31:Bool):ρ :=
 p12_9 fail fu K0 x8 x9 x10 x11 x12 x13 x14 x15 x16 x17 x18 x19 x20 x21 x22 x23 x24 x25 x26 x27 x28 x29 x30 x31 x32 x33 y4 y6 y7 y8 j31
def p12_11 {ρ:Type} (fail:ρ) (fu:Nat) (K0:Bool→ρ) (x1 x8 x9 x10:Int) (x11 x12:ByteArray) (x13 x14:Int) (x15:ByteArray) (x16 x17:EL) (x18 x19:Int) (x20:ByteArray) (x21 x22 x23:EL) (x24 x25:Int) (x26:ByteArray) (x27 x28:EL) (x29 x30:Int) (x31:ByteArray) (x32 x33:EL) (y4 y5 y6 y7 y8 j14:Bool):ρ :=
 bif j14 then (p12_9 fail fu K0 x8 x9 x10 x11 x12 x13 x14 x15 x16 x17 x18 x19 x20 x21 x22 x23 x24 x25 x26 x27 x28 x29 x30 x31 x32 x33 y4 y6 y7 y8 j14) else (bif (!y5) then (p12_10 fail fu K0 x8 x9 x10 x11 x12 x13 x14 x15 x16 x17 x18 x19 x20 x21 x22 x23 x24 x25 x26 x27 x28 x29 x30 x31 x32 x33 y4 y6 y7 y8 (z0a .neq x1 0)) else (p12_10 fail fu K0 x8 x9 x10 x11 x12 x13 x14 x15 x16 x17 x18 x19 x20 x21 x22 x23 x24 x25 x26 x27 x28 x29 x30 x31 x32 x33 y4 y6 y7 y8 false))
def p12_12 {ρ:Type} (fail:ρ) (fu:Nat) (K0:Bool→ρ) (x1 x8 x9 x10:Int) (x11 x12:ByteArray) (x13 x14:Int) (x15:ByteArray) (x16 x17:EL) (x18 x19:Int) (x20:ByteArray) (x21 x22 x23:EL) (x24 x25:Int) (x26:ByteArray) (x27 x28:EL) (x29 x30:Int) (x31:ByteArray) (x32 x33:EL) (y4 y5 y6 y7 y8 j13:Bool):ρ :=
 bif j13 then (K0 false) else (bif y5 then (p36 fail fu (fun y32=>p12_11 fail fu K0 x1 x8 x9 x10 x11 x12 x13 x14 x15 x16 x17 x18 x19 x20 x21 x22 x23 x24 x25 x26 x27 x28 x29 x30 x31 x32 x33 y4 y5 y6 y7 y8 (!y32)) x1) else (p12_11 fail fu K0 x1 x8 x9 x10 x11 x12 x13 x14 x15 x16 x17 x18 x19 x20 x21 x22 x23 x24 x25 x26 x27 x28 x29 x30 x31 x32 x33 y4 y5 y6 y7 y8 false))
def p12_13 {ρ:Type} (fail:ρ) (fu:Nat) (K0:Bool→ρ) (x1 x8 x9 x10:Int) (x11 x12:ByteArray) (x13 x14:Int) (x15:ByteArray) (x16 x17:EL) (x18 x19:Int) (x20:ByteArray) (x21 x22 x23:EL) (x24 x25:Int) (x26:ByteArray) (x27 x28:EL) (x29 x30:Int) (x31:ByteArray) (x32 x33:EL) (y4 y5 y6 y7 y8 j33:Bool):ρ :=
 p12_12 fail fu K0 x1 x8 x9 x10 x11 x12 x13 x14 x15 x16 x17 x18 x19 x20 x21 x22 x23 x24 x25 x26 x27 x28 x29 x30 x31 x32 x33 y4 y5 y6 y7 y8 j33
def p12_14 {ρ:Type} (fail:ρ) (fu:Nat) (K0:Bool→ρ) (x1 x6 x7 x8 x9 x10:Int) (x11 x12:ByteArray) (x13 x14:Int) (x15:ByteArray) (x16 x17:EL) (x18 x19:Int) (x20:ByteArray) (x21 x22 x23:EL) (x24 x25:Int) (x26:ByteArray) (x27 x28:EL) (x29 x30:Int) (x31:ByteArray) (x32 x33:EL) (y3 y4 y5 y6 y7 y8 j12:Bool):ρ :=
 bif j12 then (p12_12 fail fu K0 x1 x8 x9 x10 x11 x12 x13 x14 x15 x16 x17 x18 x19 x20 x21 x22 x23 x24 x25 x26 x27 x28 x29 x30 x31 x32 x33 y4 y5 y6 y7 y8 j12) else (bif (!y3) then (p12_13 fail fu K0 x1 x8 x9 x10 x11 x12 x13 x14 x15 x16 x17 x18 x19 x20 x21 x22 x23 x24 x25 x26 x27 x28 x29 x30 x31 x32 x33 y4 y5 y6 y7 y8 (!((z0a .eql x6 0) && ((z0a .eql x7 0) && true)))) else (p12_13 fail fu K0 x1 x8 x9 x10 x11 x12 x13 x14 x15 x16 x17 x18 x19 x20 x21 x22 x23 x24 x25 x26 x27 x28 x29 x30 x31 x32 x33 y4 y5 y6 y7 y8 false))
def p12_15 {ρ:Type} (fail:ρ) (fu:Nat) (K0:Bool→ρ) (x1 x4 x5 x6 x7 x8 x9 x10:Int) (x11 x12:ByteArray) (x13 x14:Int) (x15:ByteArray) (x16 x17:EL) (x18 x19:Int) (x20:ByteArray) (x21 x22 x23:EL) (x24 x25:Int) (x26:ByteArray) (x27 x28:EL) (x29 x30:Int) (x31:ByteArray) (x32 x33:EL) (y2 y3 y4 y5 y6 y7 y8 j11:Bool):ρ :=
 bif j11 then (K0 false) else (bif (!y2) then (p12_14 fail fu K0 x1 x6 x7 x8 x9 x10 x11 x12 x13 x14 x15 x16 x17 x18 x19 x20 x21 x22 x23 x24 x25 x26 x27 x28 x29 x30 x31 x32 x33 y3 y4 y5 y6 y7 y8 (!((z0a .eql x4 0) && ((z0a .eql x5 0) && true)))) else (p12_14 fail fu K0 x1 x6 x7 x8 x9 x10 x11 x12 x13 x14 x15 x16 x17 x18 x19 x20 x21 x22 x23 x24 x25 x26 x27 x28 x29 x30 x31 x32 x33 y3 y4 y5 y6 y7 y8 false))
def p12_16 {ρ:Type} (fail:ρ) (fu:Nat) (K0:Bool→ρ) (x1 x4 x5 x6 x7 x8 x9 x10:Int) (x11 x12:ByteArray) (x13 x14:Int) (x15:ByteArray) (x16 x17:EL) (x18 x19:Int) (x20:ByteArray) (x21 x22 x23:EL) (x24 x25:Int) (x26:ByteArray) (x27 x28:EL) (x29 x30:Int) (x31:ByteArray) (x32 x33:EL) (y2 y3 y4 y5 y6 y7 y8 j34:Bool):ρ :=
 p12_15 fail fu K0 x1 x4 x5 x6 x7 x8 x9 x10 x11 x12 x13 x14 x15 x16 x17 x18 x19 x20 x21 x22 x23 x24 x25 x26 x27 x28 x29 x30 x31 x32 x33 y2 y3 y4 y5 y6 y7 y8 j34
def p12_17 {ρ:Type} (fail:ρ) (fu:Nat) (K0:Bool→ρ) (x1 x2 x3 x4 x5 x6 x7 x8 x9 x10:Int) (x11 x12:ByteArray) (x13 x14:Int) (x15:ByteArray) (x16 x17:EL) (x18 x19:Int) (x20:ByteArray) (x21 x22 x23:EL) (x24 x25:Int) (x26:ByteArray) (x27 x28:EL) (x29 x30:Int) (x31:ByteArray) (x32 x33:EL) (y1 y2 y3 y4 y5 y6 y7 y8 j10:Bool):ρ :=
 bif j10 then (p12_15 fail fu K0 x1 x4 x5 x6 x7 x8 x9 x10 x11 x12 x13 x14 x15 x16 x17 x18 x19 x20 x21 x22 x23 x24 x25 x26 x27 x28 x29 x30 x31 x32 x33 y2 y3 y4 y5 y6 y7 y8 j10) else (bif (!y1) then (bif (z0a .neq x2 0) then (p12_16 fail fu K0 x1 x4 x5 x6 x7 x8 x9 x10 x11 x12 x13 x14 x15 x16 x17 x18 x19 x20 x21 x22 x23 x24 x25 x26 x27 x28 x29 x30 x31 x32 x33 y2 y3 y4 y5 y6 y7 y8 true) else (p12_16 fail fu K0 x1 x4 x5 x6 x7 x8 x9 x10 x11 x12 x13 x14 x15 x16 x17 x18 x19 x20 x21 x22 x23 x24 x25 x26 x27 x28 x29 x30 x31 x32 x33 y2 y3 y4 y5 y6 y7 y8 (z0a .neq x3 0))) else (p12_16 fail fu K0 x1 x4 x5 x6 x7 x8 x9 x10 x11 x12 x13 x14 x15 x16 x17 x18 x19 x20 x21 x22 x23 x24 x25 x26 x27 x28 x29 x30 x31 x32 x33 y2 y3 y4 y5 y6 y7 y8 false))
def p12 {ρ:Type} (fail:ρ) (fu:Nat) (K0:Bool→ρ) (x0 x1 x2 x3 x4 x5 x6 x7 x8 x9 x10:Int) (x11 x12:ByteArray) (x13 x14:Int) (x15:ByteArray) (x16 x17:EL) (x18 x19:Int) (x20:ByteArray) (x21 x22 x23:EL) (x24 x25:Int) (x26:ByteArray) (x27 x28:EL) (x29 x30:Int) (x31:ByteArray) (x32 x33:EL):ρ :=
 p14 fail fu (fun y1 y2 y3 y4 y5 y6 y7 y8 y9=>bif (!y9) then (K0 false) else (bif y1 then (p36 fail fu (fun y35=>bif (!y35) then (p12_17 fail fu K0 x1 x2 x3 x4 x5 x6 x7 x8 x9 x10 x11 x12 x13 x14 x15 x16 x17 x18 x19 x20 x21 x22 x23 x24 x25 x26 x27 x28 x29 x30 x31 x32 x33 y1 y2 y3 y4 y5 y6 y7 y8 true) else (p36 fail fu (fun y36=>p12_17 fail fu K0 x1 x2 x3 x4 x5 x6 x7 x8 x9 x10 x11 x12 x13 x14 x15 x16 x17 x18 x19 x20 x21 x22 x23 x24 x25 x26 x27 x28 x29 x30 x31 x32 x33 y1 y2 y3 y4 y5 y6 y7 y8 (!y36)) x3)) x2) else (p12_17 fail fu K0 x1 x2 x3 x4 x5 x6 x7 x8 x9 x10 x11 x12 x13 x14 x15 x16 x17 x18 x19 x20 x21 x22 x23 x24 x25 x26 x27 x28 x29 x30 x31 x32 x33 y1 y2 y3 y4 y5 y6 y7 y8 false))) x0
def p30 {ρ:Type} (fail:ρ) (fu:Nat) (K0:EL→ρ) (x0:EL):ρ :=
 gd (0=nilE.length) fail (gd ((nilE.length + x0.length) * 1≤35184372088832) fail (K0 (nilE++x0)))
def p53_1 {ρ:Type} (fail:ρ) (fu:Nat) (K0:EL→ρ) (rec1:EL→Int→ρ) (x1:Int) (z2:EL) (z3:Int):ρ :=
 bif (z0a .geq z3 0) then (gd ((0:Int)≤(IntKind.u64.wrap z3)) fail (gd (1≤[[(CV.v (.int .u8 (IntKind.u8.wrap (z0c .shr .u64 x1 (IntKind.u64.wrap z3)))))]].length) fail (gd ((z2.length + (List.take 1 [[(CV.v (.int .u8 (IntKind.u8.wrap (z0c .shr .u64 x1 (IntKind.u64.wrap z3)))))]]).length) * 1≤35184372088832) fail (rec1 (z2++(List.take 1 [[(CV.v (.int .u8 (IntKind.u8.wrap (z0c .shr .u64 x1 (IntKind.u64.wrap z3)))))]])) (z0c .sub .i64 z3 8))))) else (K0 z2)
def p53_1L {ρ:Type} (fail:ρ) (fu:Nat) (K0:EL→ρ) (x1:Int):Nat→EL→Int→ρ
 | 0,_,_=>fail
 | n + 1,z2,z3=>p53_1 fail fu K0 (p53_1L fail fu K0 x1 n) x1 z2 z3
def p53 {ρ:Type} (fail:ρ) (fu:Nat) (K0:EL→ρ) (x0:EL) (x1:Int):ρ :=
 p66 fail fu (fun y1=>p53_1L fail fu K0 x1 fu y1 56) x0 8
def p32 {ρ:Type} (fail:ρ) (fu:Nat) (K0:EL→ρ) (x0:EL) (x1 x2:Int):ρ :=
 p53 fail fu (fun y1=>p53 fail fu (fun y2=>K0 y2) y1 x2) x0 x1
def p11_1 {ρ:Type} (fail:ρ) (fu:Nat) (K0:EL→Int→ρ) (x0 j20:EL):ρ :=
 bif (z0a .gtr (z0c .sub .i64 ((j20.length:Nat):Int) ((x0.length:Nat):Int)) 65536) then (K0 nilE 3) else (K0 j20 0)
def p11_2 {ρ:Type} (fail:ρ) (fu:Nat) (K0:EL→Int→ρ) (x0:EL) (x12:ByteArray) (y9:Bool) (j19:EL):ρ :=
 bif y9 then (gd (x12.size≤(encB x12.data.toList).length) fail (p35 fail fu (fun y21=>p11_1 fail fu K0 x0 y21) j19 (List.take x12.size (encB x12.data.toList)))) else (p11_1 fail fu K0 x0 j19)
def p11_3 {ρ:Type} (fail:ρ) (fu:Nat) (K0:EL→Int→ρ) (x0:EL) (x12:ByteArray) (x30 x31:Int) (x32:ByteArray) (x33 x34:EL) (y8 y9:Bool) (j18:EL):ρ :=
 bif y8 then (p34 fail fu (fun y22=>p11_2 fail fu K0 x0 x12 y9 y22) j18 x30 x31 x32 x33 x34) else (p11_2 fail fu K0 x0 x12 y9 j18)
def p11_4 {ρ:Type} (fail:ρ) (fu:Nat) (K0:EL→Int→ρ) (x0:EL) (x12:ByteArray) (x25 x26:Int) (x27:ByteArray) (x28 x29:EL) (x30 x31:Int) (x32:ByteArray) (x33 x34:EL) (y7 y8 y9:Bool) (j17:EL):ρ :=
 bif y7 then (p34 fail fu (fun y23=>p11_3 fail fu K0 x0 x12 x30 x31 x32 x33 x34 y8 y9 y23) j17 x25 x26 x27 x28 x29) else (p11_3 fail fu K0 x0 x12 x30 x31 x32 x33 x34 y8 y9 j17)
def p11_5 {ρ:Type} (fail:ρ) (fu:Nat) (K0:EL→Int→ρ) (x0:EL) (x2:Int) (x12:ByteArray) (x25 x26:Int) (x27:ByteArray) (x28 x29:EL) (x30 x31:Int) (x32:ByteArray) (x33 x34:EL) (y6 y7 y8 y9:Bool) (j16:EL):ρ :=
 bif y6 then (gd (1≤[[(CV.v (.int .i64 x2))]].length) fail (p31 fail fu (fun y24=>p11_4 fail fu K0 x0 x12 x25 x26 x27 x28 x29 x30 x31 x32 x33 x34 y7 y8 y9 y24) j16 (List.take 1 [[(CV.v (.int .i64 x2))]]))) else (p11_4 fail fu K0 x0 x12 x25 x26 x27 x28 x29 x30 x31 x32 x33 x34 y7 y8 y9 j16)
def p11_6 {ρ:Type} (fail:ρ) (fu:Nat) (K0:EL→Int→ρ) (x0:EL) (x2 x9 x10 x11:Int) (x12 x13:ByteArray) (x14 x15:Int) (x16:ByteArray) (x17 x18:EL) (x19 x20:Int) (x21:ByteArray) (x22 x23 x24:EL) (x25 x26:Int) (x27:ByteArray) (x28 x29:EL) (x30 x31:Int) (x32:ByteArray) (x33 x34:EL) (y5 y6 y7 y8 y9:Bool) (j15:EL):ρ :=
 bif y5 then (p33 fail fu (fun y25=>p11_5 fail fu K0 x0 x2 x12 x25 x26 x27 x28 x29 x30 x31 x32 x33 x34 y6 y7 y8 y9 y25) j15 x9 x10 x11 x12 x13 x14 x15 x16 x17 x18 x19 x20 x21 x22 x23 x24) else (p11_5 fail fu K0 x0 x2 x12 x25 x26 x27 x28 x29 x30 x31 x32 x33 x34 y6 y7 y8 y9 j15)
def p11_7 {ρ:Type} (fail:ρ) (fu:Nat) (K0:EL→Int→ρ) (x0:EL) (x2 x7 x8 x9 x10 x11:Int) (x12 x13:ByteArray) (x14 x15:Int) (x16:ByteArray) (x17 x18:EL) (x19 x20:Int) (x21:ByteArray) (x22 x23 x24:EL) (x25 x26:Int) (x27:ByteArray) (x28 x29:EL) (x30 x31:Int) (x32:ByteArray) (x33 x34:EL) (y4 y5 y6 y7 y8 y9:Bool) (j14:EL):ρ :=
 bif y4 then (p32 fail fu (fun y26=>p11_6 fail fu K0 x0 x2 x9 x10 x11 x12 x13 x14 x15 x16 x17 x18 x19 x20 x21 x22 x23 x24 x25 x26 x27 x28 x29 x30 x31 x32 x33 x34 y5 y6 y7 y8 y9 y26) j14 x7 x8) else (p11_6 fail fu K0 x0 x2 x9 x10 x11 x12 x13 x14 x15 x16 x17 x18 x19 x20 x21 x22 x23 x24 x25 x26 x27 x28 x29 x30 x31 x32 x33 x34 y5 y6 y7 y8 y9 j14)
def p11_8 {ρ:Type} (fail:ρ) (fu:Nat) (K0:EL→Int→ρ) (x0:EL) (x2 x5 x6 x7 x8 x9 x10 x11:Int) (x12 x13:ByteArray) (x14 x15:Int) (x16:ByteArray) (x17 x18:EL) (x19 x20:Int) (x21:ByteArray) (x22 x23 x24:EL) (x25 x26:Int) (x27:ByteArray) (x28 x29:EL) (x30 x31:Int) (x32:ByteArray) (x33 x34:EL) (y3 y4 y5 y6 y7 y8 y9:Bool) (j13:EL):ρ :=
 bif y3 then (p32 fail fu (fun y27=>p11_7 fail fu K0 x0 x2 x7 x8 x9 x10 x11 x12 x13 x14 x15 x16 x17 x18 x19 x20 x21 x22 x23 x24 x25 x26 x27 x28 x29 x30 x31 x32 x33 x34 y4 y5 y6 y7 y8 y9 y27) j13 x5 x6) else (p11_7 fail fu K0 x0 x2 x7 x8 x9 x10 x11 x12 x13 x14 x15 x16 x17 x18 x19 x20 x21 x22 x23 x24 x25 x26 x27 x28 x29 x30 x31 x32 x33 x34 y4 y5 y6 y7 y8 y9 j13)
def p11 {ρ:Type} (fail:ρ) (fu:Nat) (K0:EL→Int→ρ) (x0:EL) (x1 x2 x3 x4 x5 x6 x7 x8 x9 x10 x11:Int) (x12 x13:ByteArray) (x14 x15:Int) (x16:ByteArray) (x17 x18:EL) (x19 x20:Int) (x21:ByteArray) (x22 x23 x24:EL) (x25 x26:Int) (x27:ByteArray) (x28 x29:EL) (x30 x31:Int) (x32:ByteArray) (x33 x34:EL):ρ :=
 p12 fail fu (fun y1=>bif (!y1) then (K0 nilE 1) else (p14 fail fu (fun y2 y3 y4 y5 y6 y7 y8 y9 y10=>p30 fail fu (fun y11=>gd (1≤[[(CV.v (.int .i64 x1))]].length) fail (p31 fail fu (fun y12=>bif y2 then (gd (2≤[[(CV.v (.int .i64 x3))],[(CV.v (.int .i64 x4))]].length) fail (p31 fail fu (fun y28=>p11_8 fail fu K0 x0 x2 x5 x6 x7 x8 x9 x10 x11 x12 x13 x14 x15 x16 x17 x18 x19 x20 x21 x22 x23 x24 x25 x26 x27 x28 x29 x30 x31 x32 x33 x34 y3 y4 y5 y6 y7 y8 y9 y28) y12 (List.take 2 [[(CV.v (.int .i64 x3))],[(CV.v (.int .i64 x4))]]))) else (p11_8 fail fu K0 x0 x2 x5 x6 x7 x8 x9 x10 x11 x12 x13 x14 x15 x16 x17 x18 x19 x20 x21 x22 x23 x24 x25 x26 x27 x28 x29 x30 x31 x32 x33 x34 y3 y4 y5 y6 y7 y8 y9 y12)) y11 (List.take 1 [[(CV.v (.int .i64 x1))]]))) x0) x1)) x1 x2 x3 x4 x5 x6 x7 x8 x9 x10 x11 x12 x13 x14 x15 x16 x17 x18 x19 x20 x21 x22 x23 x24 x25 x26 x27 x28 x29 x30 x31 x32 x33 x34
def p4_1 {ρ:Type} (fail:ρ) (fu:Nat) (K0:Bool→ρ) (j38:Bool):ρ :=
 K0 j38
def p4 {ρ:Type} (fail:ρ) (fu:Nat) (K0:Bool→ρ):ρ :=
 p11 fail fu (fun y1 y2=>gd (17≤[[(CV.v (.int .u8 11))],[(CV.v (.int .u8 0))],[(CV.v (.int .u8 0))],[(CV.v (.int .u8 0))],[(CV.v (.int .u8 0))],[(CV.v (.int .u8 0))],[(CV.v (.int .u8 0))],[(CV.v (.int .u8 0))],[(CV.v (.int .u8 1))],[(CV.v (.int .u8 0))],[(CV.v (.int .u8 0))],[(CV.v (.int .u8 0))],[(CV.v (.int .u8 0))],[(CV.v (.int .u8 0))],[(CV.v (.int .u8 0))],[(CV.v (.int .u8 0))],[(CV.v (.int .u8 2))]].length) fail (p6 fail fu (fun y3 y4 y5 y6 y7 y8 y9 y10 y11 y12 y13 y14 y15 y16 y17 y18 y19 y20 y21 y22 y23 y24 y25 y26 y27 y28 y29 y30 y31 y32 y33 y34 y35 y36 y37=>bif (z0a .eql y2 0) then (tobP fail y1 (fun s39=>bif (z2f .eql s39 ⟨#[18]⟩) then (bif (z0a .eql y37 0) then (bif (z0a .eql y3 11) then (bif (z0a .eql y7 1) then (bif (z0a .eql y8 2) then (p12 fail fu (fun y40=>p4_1 fail fu K0 y40) y3 y4 y5 y6 y7 y8 y9 y10 y11 y12 y13 y14 y15 y16 y17 y18 y19 y20 y21 y22 y23 y24 y25 y26 y27 y28 y29 y30 y31 y32 y33 y34 y35 y36) else (p4_1 fail fu K0 false)) else (p4_1 fail fu K0 false)) else (p4_1 fail fu K0 false)) else (p4_1 fail fu K0 false)) else (p4_1 fail fu K0 false))) else (p4_1 fail fu K0 false)) (List.take 17 [[(CV.v (.int .u8 11))],[(CV.v (.int .u8 0))],[(CV.v (.int .u8 0))],[(CV.v (.int .u8 0))],[(CV.v (.int .u8 0))],[(CV.v (.int .u8 0))],[(CV.v (.int .u8 0))],[(CV.v (.int .u8 0))],[(CV.v (.int .u8 1))],[(CV.v (.int .u8 0))],[(CV.v (.int .u8 0))],[(CV.v (.int .u8 0))],[(CV.v (.int .u8 0))],[(CV.v (.int .u8 0))],[(CV.v (.int .u8 0))],[(CV.v (.int .u8 0))],[(CV.v (.int .u8 2))]]))) nilE 18 0 0 0 0 0 0 0 0 0 0 ⟨#[]⟩ ⟨#[]⟩ 0 0 ⟨#[]⟩ nilE nilE 0 0 ⟨#[]⟩ nilE nilE nilE 0 0 ⟨#[]⟩ nilE nilE 0 0 ⟨#[]⟩ nilE nilE
def p3_1 {ρ:Type} (fail:ρ) (fu:Nat) (K0:Bool→ρ) (j76:Bool):ρ :=
 K0 j76
def p3_2 {ρ:Type} (fail:ρ) (fu:Nat) (K0:Bool→ρ) (y2:EL) (y4:Nat) (y5 y6 y7 y8 y9 y10 y11 y12 y13 y14 y15:Int) (y16 y17:ByteArray) (y18 y19:Int) (y20:ByteArray) (y21 y22:EL) (y23 y24:Int) (y25:ByteArray) (y26 y27 y28:EL) (y29 y30:Int) (y31:ByteArray) (y32 y33:EL) (y34 y35:Int) (y36:ByteArray) (y37 y38:EL) (y40 y41 y42 y43 y44 y45 y46 y47 y48 y49 y50:Int) (y51 y52:ByteArray) (y53 y54:Int) (y55:ByteArray) (y56 y57:EL) (y58 y59:Int) (y60:ByteArray) (y61 y62 y63:EL) (y64 y65:Int) (y66:ByteArray) (y67 y68:EL) (y69 y70:Int) (y71:ByteArray) (y72 y73:EL) (j75:Bool):ρ :=
 gd (y4≤y2.length) fail (bif j75 then (p10 fail fu (fun y77=>p3_1 fail fu K0 y77) y5 y6 y7 y8 y9 y10 y11 y12 y13 y14 y15 y16 y17 y18 y19 y20 y21 y22 y23 y24 y25 y26 y27 y28 y29 y30 y31 y32 y33 y34 y35 y36 y37 y38 y40 y41 y42 y43 y44 y45 y46 y47 y48 y49 y50 y51 y52 y53 y54 y55 y56 y57 y58 y59 y60 y61 y62 y63 y64 y65 y66 y67 y68 y69 y70 y71 y72 y73) else (p3_1 fail fu K0 false))
def p3 {ρ:Type} (fail:ρ) (fu:Nat) (K0:Bool→ρ) (x0:EL):ρ :=
 p4 fail fu (fun y1=>bif (!y1) then (K0 false) else (bif (z0a .gtr ((x0.length:Nat):Int) 4000) then (K0 true) else (p5 fail fu (fun y2 y3 y4=>gd (y4≤y2.length) fail (gd (u8E y2=true) fail (p6 fail fu (fun y5 y6 y7 y8 y9 y10 y11 y12 y13 y14 y15 y16 y17 y18 y19 y20 y21 y22 y23 y24 y25 y26 y27 y28 y29 y30 y31 y32 y33 y34 y35 y36 y37 y38 y39=>gd (safeE y21=true) fail (gd (safeE y22=true) fail (gd (safeE y26=true) fail (gd (safeE y27=true) fail (gd (safeE y28=true) fail (gd (safeE y32=true) fail (gd (safeE y33=true) fail (gd (safeE y37=true) fail (gd (safeE y38=true) fail (p7 fail fu (fun y40 y41 y42 y43 y44 y45 y46 y47 y48 y49 y50 y51 y52 y53 y54 y55 y56 y57 y58 y59 y60 y61 y62 y63 y64 y65 y66 y67 y68 y69 y70 y71 y72 y73 y74=>bif (z0a .eql y39 y74) then (gd (y4≤y2.length) fail (gd (u8E y2=true) fail (gd (y3=y2.length) fail (gd (y4 < y2.length) fail (p8 fail fu (fun y78=>p3_2 fail fu K0 y2 y4 y5 y6 y7 y8 y9 y10 y11 y12 y13 y14 y15 y16 y17 y18 y19 y20 y21 y22 y23 y24 y25 y26 y27 y28 y29 y30 y31 y32 y33 y34 y35 y36 y37 y38 y40 y41 y42 y43 y44 y45 y46 y47 y48 y49 y50 y51 y52 y53 y54 y55 y56 y57 y58 y59 y60 y61 y62 y63 y64 y65 y66 y67 y68 y69 y70 y71 y72 y73 y78) (List.take y4 y2) (List.drop y4 y2) x0))))) else (p3_2 fail fu K0 y2 y4 y5 y6 y7 y8 y9 y10 y11 y12 y13 y14 y15 y16 y17 y18 y19 y20 y21 y22 y23 y24 y25 y26 y27 y28 y29 y30 y31 y32 y33 y34 y35 y36 y37 y38 y40 y41 y42 y43 y44 y45 y46 y47 y48 y49 y50 y51 y52 y53 y54 y55 y56 y57 y58 y59 y60 y61 y62 y63 y64 y65 y66 y67 y68 y69 y70 y71 y72 y73 false)) x0)))))))))) (List.take y4 y2)))) x0))) 
end Go.Proofs.Ytioiigabeoaneaa

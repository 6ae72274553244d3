/- A part of the proof that XlatePolicy returns true at every argument: the reader machine and this translation under it. Conditions: those that each theorem bears. -/
import Derived.Test.YtcdjeickpdlbfaaGreatDoorQ17
import Derived.Test.YtcdjeickpdlbfaaGreatDoorQ18
import Derived.Test.YtcdjeickpdlbfaaGreatDoorQ19
import Derived.Test.YtcdjeickpdlbfaaGreatDoorQ20
import Derived.Test.YtcdjeickpdlbfaaGreatDoorQ16
import Derived.Tactics
import Derived.Tactics2
import Derived.StillTactics
import Derived.Laws.Pointers
import Derived.Laws.Small
import Derived.Laws.StructEq
import Derived.Laws.Tables
import Derived.Laws.Cover2
section
set_option maxRecDepth 100000
namespace Go.Proofs.QQ
open Go
noncomputable def fns : NT XG := (.node 161 (.node 81 (.node 42 (.node 22 (.node 12 (.node 7 (.node 5 (.node 4 (.leaf 3 g3) (.leaf 4 g4)) (.node 6 (.leaf 5 g5) (.leaf 6 g6))) (.node 9 (.node 8 (.leaf 7 g7) (.leaf 8 g8)) (.node 10 (.leaf 9 g9) (.node 11 (.leaf 10 g10) (.leaf 11 g11))))) (.node 17 (.node 14 (.node 13 (.leaf 12 g12) (.leaf 13 g13)) (.node 15 (.leaf 14 g14) (.node 16 (.leaf 15 g15) (.leaf 16 g16)))) (.node 19 (.node 18 (.leaf 17 g17) (.leaf 18 g18)) (.node 20 (.leaf 19 g19) (.node 21 (.leaf 20 g20) (.leaf 21 g21)))))) (.node 32 (.node 27 (.node 24 (.node 23 (.leaf 22 g22) (.leaf 23 g23)) (.node 25 (.leaf 24 g24) (.node 26 (.leaf 25 g25) (.leaf 26 g26)))) (.node 29 (.node 28 (.leaf 27 g27) (.leaf 28 g28)) (.node 30 (.leaf 29 g29) (.node 31 (.leaf 30 g30) (.leaf 31 g31))))) (.node 37 (.node 34 (.node 33 (.leaf 32 g32) (.leaf 33 g33)) (.node 35 (.leaf 34 g34) (.node 36 (.leaf 35 g35) (.leaf 36 g36)))) (.node 39 (.node 38 (.leaf 37 g37) (.leaf 38 g38)) (.node 40 (.leaf 39 g39) (.node 41 (.leaf 40 g40) (.leaf 41 g41))))))) (.node 61 (.node 51 (.node 46 (.node 44 (.node 43 (.leaf 42 g42) (.leaf 43 g43)) (.node 45 (.leaf 44 g44) (.leaf 45 g45))) (.node 48 (.node 47 (.leaf 46 g46) (.leaf 47 g47)) (.node 49 (.leaf 48 g48) (.node 50 (.leaf 49 g49) (.leaf 50 g50))))) (.node 56 (.node 53 (.node 52 (.leaf 51 g51) (.leaf 52 g52)) (.node 54 (.leaf 53 g53) (.node 55 (.leaf 54 g54) (.leaf 55 g55)))) (.node 58 (.node 57 (.leaf 56 g56) (.leaf 57 g57)) (.node 59 (.leaf 58 g58) (.node 60 (.leaf 59 g59) (.leaf 60 g60)))))) (.node 71 (.node 66 (.node 63 (.node 62 (.leaf 61 g61) (.leaf 62 g62)) (.node 64 (.leaf 63 g63) (.node 65 (.leaf 64 g64) (.leaf 65 g65)))) (.node 68 (.node 67 (.leaf 66 g66) (.leaf 67 g67)) (.node 69 (.leaf 68 g68) (.node 70 (.leaf 69 g69) (.leaf 70 g70))))) (.node 76 (.node 73 (.node 72 (.leaf 71 g71) (.leaf 72 g72)) (.node 74 (.leaf 73 g73) (.node 75 (.leaf 74 g74) (.leaf 75 g75)))) (.node 78 (.node 77 (.leaf 76 g76) (.leaf 77 g77)) (.node 79 (.leaf 78 g78) (.node 80 (.leaf 79 g79) (.leaf 80 g80)))))))) (.node 121 (.node 100 (.node 90 (.node 85 (.node 83 (.node 82 (.leaf 81 g81) (.leaf 82 g82)) (.node 84 (.leaf 83 g83) (.leaf 84 g84))) (.node 87 (.node 86 (.leaf 85 g85) (.leaf 86 g86)) (.node 88 (.leaf 87 g87) (.node 89 (.leaf 88 g88) (.leaf 89 g89))))) (.node 95 (.node 92 (.node 91 (.leaf 90 g90) (.leaf 91 g91)) (.node 93 (.leaf 92 g92) (.node 94 (.leaf 93 g93) (.leaf 94 g94)))) (.node 97 (.node 96 (.leaf 95 g95) (.leaf 96 g96)) (.node 98 (.leaf 97 g97) (.node 99 (.leaf 98 g98) (.leaf 99 g99)))))) (.node 110 (.node 105 (.node 102 (.node 101 (.leaf 100 g100) (.leaf 101 g101)) (.node 103 (.leaf 102 g102) (.node 104 (.leaf 103 g103) (.leaf 104 g104)))) (.node 107 (.node 106 (.leaf 105 g105) (.leaf 106 g106)) (.node 108 (.leaf 107 g107) (.node 109 (.leaf 108 g108) (.leaf 109 g109))))) (.node 116 (.node 113 (.node 112 (.leaf 110 g110) (.leaf 112 g112)) (.node 114 (.leaf 113 g113) (.node 115 (.leaf 114 g114) (.leaf 115 g115)))) (.node 118 (.node 117 (.leaf 116 g116) (.leaf 117 g117)) (.node 119 (.leaf 118 g118) (.node 120 (.leaf 119 g119) (.leaf 120 g120))))))) (.node 141 (.node 130 (.node 125 (.node 123 (.node 122 (.leaf 121 g121) (.leaf 122 g122)) (.node 124 (.leaf 123 g123) (.leaf 124 g124))) (.node 127 (.node 126 (.leaf 125 g125) (.leaf 126 g126)) (.node 128 (.leaf 127 g127) (.node 129 (.leaf 128 g128) (.leaf 129 g129))))) (.node 136 (.node 133 (.node 132 (.leaf 130 g130) (.leaf 132 g132)) (.node 134 (.leaf 133 g133) (.node 135 (.leaf 134 g134) (.leaf 135 g135)))) (.node 138 (.node 137 (.leaf 136 g136) (.leaf 137 g137)) (.node 139 (.leaf 138 g138) (.node 140 (.leaf 139 g139) (.leaf 140 g140)))))) (.node 151 (.node 146 (.node 143 (.node 142 (.leaf 141 g141) (.leaf 142 g142)) (.node 144 (.leaf 143 g143) (.node 145 (.leaf 144 g144) (.leaf 145 g145)))) (.node 148 (.node 147 (.leaf 146 g146) (.leaf 147 g147)) (.node 149 (.leaf 148 g148) (.node 150 (.leaf 149 g149) (.leaf 150 g150))))) (.node 156 (.node 153 (.node 152 (.leaf 151 g151) (.leaf 152 g152)) (.node 154 (.leaf 153 g153) (.node 155 (.leaf 154 g154) (.leaf 155 g155)))) (.node 158 (.node 157 (.leaf 156 g156) (.leaf 157 g157)) (.node 159 (.leaf 158 g158) (.node 160 (.leaf 159 g159) (.leaf 160 g160))))))))) (.node 242 (.node 201 (.node 180 (.node 170 (.node 165 (.node 163 (.node 162 (.leaf 161 g161) (.leaf 162 g162)) (.node 164 (.leaf 163 g163) (.leaf 164 g164))) (.node 167 (.node 166 (.leaf 165 g165) (.leaf 166 g166)) (.node 168 (.leaf 167 g167) (.node 169 (.leaf 168 g168) (.leaf 169 g169))))) (.node 175 (.node 172 (.node 171 (.leaf 170 g170) (.leaf 171 g171)) (.node 173 (.leaf 172 g172) (.node 174 (.leaf 173 g173) (.leaf 174 g174)))) (.node 177 (.node 176 (.leaf 175 g175) (.leaf 176 g176)) (.node 178 (.leaf 177 g177) (.node 179 (.leaf 178 g178) (.leaf 179 g179)))))) (.node 191 (.node 186 (.node 183 (.node 182 (.leaf 180 g180) (.leaf 182 g182)) (.node 184 (.leaf 183 g183) (.node 185 (.leaf 184 g184) (.leaf 185 g185)))) (.node 188 (.node 187 (.leaf 186 g186) (.leaf 187 g187)) (.node 189 (.leaf 188 g188) (.node 190 (.leaf 189 g189) (.leaf 190 g190))))) (.node 196 (.node 193 (.node 192 (.leaf 191 g191) (.leaf 192 g192)) (.node 194 (.leaf 193 g193) (.node 195 (.leaf 194 g194) (.leaf 195 g195)))) (.node 198 (.node 197 (.leaf 196 g196) (.leaf 197 g197)) (.node 199 (.leaf 198 g198) (.node 200 (.leaf 199 g199) (.leaf 200 g200))))))) (.node 221 (.node 210 (.node 205 (.node 203 (.node 202 (.leaf 201 g201) (.leaf 202 g202)) (.node 204 (.leaf 203 g203) (.leaf 204 g204))) (.node 207 (.node 206 (.leaf 205 g205) (.leaf 206 g206)) (.node 208 (.leaf 207 g207) (.node 209 (.leaf 208 g208) (.leaf 209 g209))))) (.node 216 (.node 213 (.node 212 (.leaf 210 g210) (.leaf 212 g212)) (.node 214 (.leaf 213 g213) (.node 215 (.leaf 214 g214) (.leaf 215 g215)))) (.node 218 (.node 217 (.leaf 216 g216) (.leaf 217 g217)) (.node 219 (.leaf 218 g218) (.node 220 (.leaf 219 g219) (.leaf 220 g220)))))) (.node 232 (.node 227 (.node 223 (.node 222 (.leaf 221 g221) (.leaf 222 g222)) (.node 224 (.leaf 223 g223) (.node 225 (.leaf 224 g224) (.leaf 225 g225)))) (.node 229 (.node 228 (.leaf 227 g227) (.leaf 228 g228)) (.node 230 (.leaf 229 g229) (.node 231 (.leaf 230 g230) (.leaf 231 g231))))) (.node 237 (.node 234 (.node 233 (.leaf 232 g232) (.leaf 233 g233)) (.node 235 (.leaf 234 g234) (.node 236 (.leaf 235 g235) (.leaf 236 g236)))) (.node 239 (.node 238 (.leaf 237 g237) (.leaf 238 g238)) (.node 240 (.leaf 239 g239) (.node 241 (.leaf 240 g240) (.leaf 241 g241)))))))) (.node 281 (.node 261 (.node 251 (.node 246 (.node 244 (.node 243 (.leaf 242 g242) (.leaf 243 g243)) (.node 245 (.leaf 244 g244) (.leaf 245 g245))) (.node 248 (.node 247 (.leaf 246 g246) (.leaf 247 g247)) (.node 249 (.leaf 248 g248) (.node 250 (.leaf 249 g249) (.leaf 250 g250))))) (.node 256 (.node 253 (.node 252 (.leaf 251 g251) (.leaf 252 g252)) (.node 254 (.leaf 253 g253) (.node 255 (.leaf 254 g254) (.leaf 255 g255)))) (.node 258 (.node 257 (.leaf 256 g256) (.leaf 257 g257)) (.node 259 (.leaf 258 g258) (.node 260 (.leaf 259 g259) (.leaf 260 g260)))))) (.node 271 (.node 266 (.node 263 (.node 262 (.leaf 261 g261) (.leaf 262 g262)) (.node 264 (.leaf 263 g263) (.node 265 (.leaf 264 g264) (.leaf 265 g265)))) (.node 268 (.node 267 (.leaf 266 g266) (.leaf 267 g267)) (.node 269 (.leaf 268 g268) (.node 270 (.leaf 269 g269) (.leaf 270 g270))))) (.node 276 (.node 273 (.node 272 (.leaf 271 g271) (.leaf 272 g272)) (.node 274 (.leaf 273 g273) (.node 275 (.leaf 274 g274) (.leaf 275 g275)))) (.node 278 (.node 277 (.leaf 276 g276) (.leaf 277 g277)) (.node 279 (.leaf 278 g278) (.node 280 (.leaf 279 g279) (.leaf 280 g280))))))) (.node 318 (.node 308 (.node 303 (.node 301 (.node 300 (.leaf 281 g281) (.leaf 300 g300)) (.node 302 (.leaf 301 g301) (.leaf 302 g302))) (.node 305 (.node 304 (.leaf 303 g303) (.leaf 304 g304)) (.node 306 (.leaf 305 g305) (.node 307 (.leaf 306 g306) (.leaf 307 g307))))) (.node 313 (.node 310 (.node 309 (.leaf 308 g308) (.leaf 309 g309)) (.node 311 (.leaf 310 g310) (.node 312 (.leaf 311 g311) (.leaf 312 g312)))) (.node 315 (.node 314 (.leaf 313 g313) (.leaf 314 g314)) (.node 316 (.leaf 315 g315) (.node 317 (.leaf 316 g316) (.leaf 317 g317)))))) (.node 328 (.node 323 (.node 320 (.node 319 (.leaf 318 g318) (.leaf 319 g319)) (.node 321 (.leaf 320 g320) (.node 322 (.leaf 321 g321) (.leaf 322 g322)))) (.node 325 (.node 324 (.leaf 323 g323) (.leaf 324 g324)) (.node 326 (.leaf 325 g325) (.node 327 (.leaf 326 g326) (.leaf 327 g327))))) (.node 333 (.node 330 (.node 329 (.leaf 328 g328) (.leaf 329 g329)) (.node 331 (.leaf 330 g330) (.node 332 (.leaf 331 g331) (.leaf 332 g332)))) (.node 335 (.node 334 (.leaf 333 g333) (.leaf 334 g334)) (.node 336 (.leaf 335 g335) (.node 337 (.leaf 336 g336) (.leaf 337 g337))))))))))
theorem fns_ok : fns.All (XGOk Tryz.prog) := ⟨⟨⟨⟨⟨⟨⟨⟨ok3, ok4⟩, ⟨ok5, ok6⟩⟩, ⟨⟨ok7, ok8⟩, ⟨ok9, ⟨ok10, ok11⟩⟩⟩⟩, ⟨⟨⟨ok12, ok13⟩, ⟨ok14, ⟨ok15, ok16⟩⟩⟩, ⟨⟨ok17, ok18⟩, ⟨ok19, ⟨ok20, ok21⟩⟩⟩⟩⟩, ⟨⟨⟨⟨ok22, ok23⟩, ⟨ok24, ⟨ok25, ok26⟩⟩⟩, ⟨⟨ok27, ok28⟩, ⟨ok29, ⟨ok30, ok31⟩⟩⟩⟩, ⟨⟨⟨ok32, ok33⟩, ⟨ok34, ⟨ok35, ok36⟩⟩⟩, ⟨⟨ok37, ok38⟩, ⟨ok39, ⟨ok40, ok41⟩⟩⟩⟩⟩⟩, ⟨⟨⟨⟨⟨ok42, ok43⟩, ⟨ok44, ok45⟩⟩, ⟨⟨ok46, ok47⟩, ⟨ok48, ⟨ok49, ok50⟩⟩⟩⟩, ⟨⟨⟨ok51, ok52⟩, ⟨ok53, ⟨ok54, ok55⟩⟩⟩, ⟨⟨ok56, ok57⟩, ⟨ok58, ⟨ok59, ok60⟩⟩⟩⟩⟩, ⟨⟨⟨⟨ok61, ok62⟩, ⟨ok63, ⟨ok64, ok65⟩⟩⟩, ⟨⟨ok66, ok67⟩, ⟨ok68, ⟨ok69, ok70⟩⟩⟩⟩, ⟨⟨⟨ok71, ok72⟩, ⟨ok73, ⟨ok74, ok75⟩⟩⟩, ⟨⟨ok76, ok77⟩, ⟨ok78, ⟨ok79, ok80⟩⟩⟩⟩⟩⟩⟩, ⟨⟨⟨⟨⟨⟨ok81, ok82⟩, ⟨ok83, ok84⟩⟩, ⟨⟨ok85, ok86⟩, ⟨ok87, ⟨ok88, ok89⟩⟩⟩⟩, ⟨⟨⟨ok90, ok91⟩, ⟨ok92, ⟨ok93, ok94⟩⟩⟩, ⟨⟨ok95, ok96⟩, ⟨ok97, ⟨ok98, ok99⟩⟩⟩⟩⟩, ⟨⟨⟨⟨ok100, ok101⟩, ⟨ok102, ⟨ok103, ok104⟩⟩⟩, ⟨⟨ok105, ok106⟩, ⟨ok107, ⟨ok108, ok109⟩⟩⟩⟩, ⟨⟨⟨ok110, ok112⟩, ⟨ok113, ⟨ok114, ok115⟩⟩⟩, ⟨⟨ok116, ok117⟩, ⟨ok118, ⟨ok119, ok120⟩⟩⟩⟩⟩⟩, ⟨⟨⟨⟨⟨ok121, ok122⟩, ⟨ok123, ok124⟩⟩, ⟨⟨ok125, ok126⟩, ⟨ok127, ⟨ok128, ok129⟩⟩⟩⟩, ⟨⟨⟨ok130, ok132⟩, ⟨ok133, ⟨ok134, ok135⟩⟩⟩, ⟨⟨ok136, ok137⟩, ⟨ok138, ⟨ok139, ok140⟩⟩⟩⟩⟩, ⟨⟨⟨⟨ok141, ok142⟩, ⟨ok143, ⟨ok144, ok145⟩⟩⟩, ⟨⟨ok146, ok147⟩, ⟨ok148, ⟨ok149, ok150⟩⟩⟩⟩, ⟨⟨⟨ok151, ok152⟩, ⟨ok153, ⟨ok154, ok155⟩⟩⟩, ⟨⟨ok156, ok157⟩, ⟨ok158, ⟨ok159, ok160⟩⟩⟩⟩⟩⟩⟩⟩, ⟨⟨⟨⟨⟨⟨⟨ok161, ok162⟩, ⟨ok163, ok164⟩⟩, ⟨⟨ok165, ok166⟩, ⟨ok167, ⟨ok168, ok169⟩⟩⟩⟩, ⟨⟨⟨ok170, ok171⟩, ⟨ok172, ⟨ok173, ok174⟩⟩⟩, ⟨⟨ok175, ok176⟩, ⟨ok177, ⟨ok178, ok179⟩⟩⟩⟩⟩, ⟨⟨⟨⟨ok180, ok182⟩, ⟨ok183, ⟨ok184, ok185⟩⟩⟩, ⟨⟨ok186, ok187⟩, ⟨ok188, ⟨ok189, ok190⟩⟩⟩⟩, ⟨⟨⟨ok191, ok192⟩, ⟨ok193, ⟨ok194, ok195⟩⟩⟩, ⟨⟨ok196, ok197⟩, ⟨ok198, ⟨ok199, ok200⟩⟩⟩⟩⟩⟩, ⟨⟨⟨⟨⟨ok201, ok202⟩, ⟨ok203, ok204⟩⟩, ⟨⟨ok205, ok206⟩, ⟨ok207, ⟨ok208, ok209⟩⟩⟩⟩, ⟨⟨⟨ok210, ok212⟩, ⟨ok213, ⟨ok214, ok215⟩⟩⟩, ⟨⟨ok216, ok217⟩, ⟨ok218, ⟨ok219, ok220⟩⟩⟩⟩⟩, ⟨⟨⟨⟨ok221, ok222⟩, ⟨ok223, ⟨ok224, ok225⟩⟩⟩, ⟨⟨ok227, ok228⟩, ⟨ok229, ⟨ok230, ok231⟩⟩⟩⟩, ⟨⟨⟨ok232, ok233⟩, ⟨ok234, ⟨ok235, ok236⟩⟩⟩, ⟨⟨ok237, ok238⟩, ⟨ok239, ⟨ok240, ok241⟩⟩⟩⟩⟩⟩⟩, ⟨⟨⟨⟨⟨⟨ok242, ok243⟩, ⟨ok244, ok245⟩⟩, ⟨⟨ok246, ok247⟩, ⟨ok248, ⟨ok249, ok250⟩⟩⟩⟩, ⟨⟨⟨ok251, ok252⟩, ⟨ok253, ⟨ok254, ok255⟩⟩⟩, ⟨⟨ok256, ok257⟩, ⟨ok258, ⟨ok259, ok260⟩⟩⟩⟩⟩, ⟨⟨⟨⟨ok261, ok262⟩, ⟨ok263, ⟨ok264, ok265⟩⟩⟩, ⟨⟨ok266, ok267⟩, ⟨ok268, ⟨ok269, ok270⟩⟩⟩⟩, ⟨⟨⟨ok271, ok272⟩, ⟨ok273, ⟨ok274, ok275⟩⟩⟩, ⟨⟨ok276, ok277⟩, ⟨ok278, ⟨ok279, ok280⟩⟩⟩⟩⟩⟩, ⟨⟨⟨⟨⟨ok281, ok300⟩, ⟨ok301, ok302⟩⟩, ⟨⟨ok303, ok304⟩, ⟨ok305, ⟨ok306, ok307⟩⟩⟩⟩, ⟨⟨⟨ok308, ok309⟩, ⟨ok310, ⟨ok311, ok312⟩⟩⟩, ⟨⟨ok313, ok314⟩, ⟨ok315, ⟨ok316, ok317⟩⟩⟩⟩⟩, ⟨⟨⟨⟨ok318, ok319⟩, ⟨ok320, ⟨ok321, ok322⟩⟩⟩, ⟨⟨ok323, ok324⟩, ⟨ok325, ⟨ok326, ok327⟩⟩⟩⟩, ⟨⟨⟨ok328, ok329⟩, ⟨ok330, ⟨ok331, ok332⟩⟩⟩, ⟨⟨ok333, ok334⟩, ⟨ok335, ⟨ok336, ok337⟩⟩⟩⟩⟩⟩⟩⟩⟩
end Go.Proofs.QQ
end
section
set_option maxRecDepth 100000
set_option linter.unusedVariables false
namespace Go.Proofs.QQ
open Go

/-- strings.asciiSpace. -/
def asciiCells : List AV := (List.range 256).map fun i => .int .u8 (match memB i [9, 10, 11, 12, 13, 32] with | true => 1 | false => 0)
def glob0 : Glob := fun g => match Nat.beq g 1 with
  | true => some asciiCells
  | false => none
def isFind (name : String) (f : FuncId) : Option FuncId := if name = "Find" then some f else none
def meth0 (t : TypeId) (name : String) : Option FuncId :=
  match Nat.beq t 127 with
  | true => isFind name 300
  | false => match Nat.beq t 152 with
    | true => isFind name 308
    | false => none
/-- api.Problem. -/
def peq0 (t : TypeId) (cs : List AV) : Bool :=
  match Nat.beq t 38 with
  | true => match cs with
    | [.int .i64 _, .int .i64 _] => true
    | _ => false
  | false => false
def big0 (t : TypeId) : Option (List (Nat × AV)) :=
  match Nat.beq t 293 with
  | true => some segB
  | false => match Nat.beq t 294 with
    | true => some segH
    | false => match Nat.beq t 295 with
      | true => some segI
      | false => match Nat.beq t 296 with
        | true => some segI
        | false => none

noncomputable def TT : Tab := types.tab glob0 meth0 peq0 big0

theorem isFind_some {name : String} {f g : FuncId} (h : isFind name f = some g) : name = "Find" ∧ g = f := by
  unfold isFind at h
  split at h
  · cases h; exact ⟨by assumption, rfl⟩
  · cases h

theorem TT_ok : TabOk Tryz.prog TT := by
  refine Tree.tab_ok types_ok (fun t name f h v w => ?_) (fun t segs h => ?_)
  · unfold meth0 at h
    split at h
    · rename_i hb
      obtain rfl := Nat.eq_of_beq_eq_true hb
      obtain ⟨rfl, rfl⟩ := isFind_some h
      kernel_rfl
    · split at h
      · rename_i hb
        obtain rfl := Nat.eq_of_beq_eq_true hb
        obtain ⟨rfl, rfl⟩ := isFind_some h
        kernel_rfl
      · cases h
  · unfold big0 at h
    split at h
    · rename_i hb
      obtain rfl := Nat.eq_of_beq_eq_true hb
      cases h
      have e : (types.find noRow 293).zero = chunkT fB 10 0 65536 := by kernel_rfl
      rw [e]; exact segB_eq
    · split at h
      · rename_i hb
        obtain rfl := Nat.eq_of_beq_eq_true hb
        cases h
        have e : (types.find noRow 294).zero = chunkT fH 4 0 1024 := by kernel_rfl
        rw [e]; exact segH_eq
      · split at h
        · rename_i hb
          obtain rfl := Nat.eq_of_beq_eq_true hb
          cases h
          have e : (types.find noRow 295).zero = chunkT fI 11 0 66560 := by kernel_rfl
          rw [e]; exact segI_eq
        · split at h
          · rename_i hb
            obtain rfl := Nat.eq_of_beq_eq_true hb
            cases h
            have e : (types.find noRow 296).zero = chunkT fI 11 0 66560 := by kernel_rfl
            rw [e]; exact segI_eq
          · cases h

theorem mixed : Tryz.prog.follows .mixedOrders = true := by kernel_rfl

theorem two_ints {xs : List AV} (h : peq0 38 xs = true) : ∃ a b, xs = [.int .i64 a, .int .i64 b] := by
  unfold peq0 at h
  simp only at h
  split at h
  · exact ⟨_, _, rfl⟩
  · cases h

theorem ints_of {xs : List AV} {cs : Array Value} {a b : Int} (hx : xs = [.int .i64 a, .int .i64 b]) (hl : cs.size = xs.length) (hr : ∀ i (h : i < xs.length), ∃ γ w, VRel γ w xs[i] (cs.getD i undef)) : cs = #[.int .i64 a, .int .i64 b] := by
  subst hx
  obtain ⟨l⟩ := cs
  match l, hl with
  | [u, v], _ =>
    obtain ⟨γ, w, h0⟩ := hr 0 (by simp)
    obtain ⟨γ', w', h1⟩ := hr 1 (by simp)
    have e0 : u = .int .i64 a := by simpa using (show VRel γ w (.int .i64 a) u from by simpa using h0) |> fun h => by cases h; rfl
    have e1 : v = .int .i64 b := by simpa using (show VRel γ' w' (.int .i64 b) v from by simpa using h1) |> fun h => by cases h; rfl
    rw [e0, e1]

theorem pe : PeqOk Tryz.prog TT := by
  intro t xs ys hp w cs ds b hl hl2 hr hr2 he
  rw [Bool.and_eq_true] at hp
  have ht : t = 38 := by
    have h1 : peq0 t xs = true := hp.1
    unfold peq0 at h1
    split at h1
    · rename_i hb; exact Nat.eq_of_beq_eq_true hb
    · cases h1
  subst ht
  obtain ⟨a, b', hx⟩ := two_ints hp.1
  obtain ⟨c, d, hy⟩ := two_ints hp.2
  have e1 := ints_of hx hl hr
  have e2 := ints_of hy hl2 hr2
  subst hx; subst hy; subst e1; subst e2
  refine ⟨by kernel_rfl, ?_⟩
  have hb : b = ((a == c) && ((b' == d) && true)) := by
    simp only [eqL, eqS, sameInt, if_true] at he
    exact (Option.some.inj he).symm
  subst hb
  have u38 : (Op.equalIn 10000 38 (.agg #[.int .i64 a, .int .i64 b']) (.agg #[.int .i64 c, .int .i64 d])).run Tryz.prog w = .ok (a == c && b' == d) w := by
    have u3 := Tryz.underlying3
    have a3 := Tryz.isAgg3
    have z3 := Tryz.sizeOf3
    have u24 := Tryz.underlying24
    have a24 := Tryz.isAgg24
    have z24 := Tryz.sizeOf24
    have hS : Tryz.prog.underlying 38 = some (.struct (Tryz.prog.fieldsOf 38)) := by kernel_rfl
    have hp : Tryz.prog.stoodInHeld 38 = false := by kernel_rfl
    rw [show (10000 : Nat) = 9999 + 1 from rfl, run_equalIn_agg w 9999 38 _ _ hS hp]
    simp only [Program.fieldsOf, Tryz.underlying38]
    go_simp
    by_cases h1 : a = c <;> by_cases h2 : b' = d <;> simp [h1, h2]
  have e : (Op.equal 38 (.agg #[.int .i64 a, .int .i64 b']) (.agg #[.int .i64 c, .int .i64 d])) = Op.equalIn 10000 38 (.agg #[.int .i64 a, .int .i64 b']) (.agg #[.int .i64 c, .int .i64 d]) := rfl
  rw [e, u38]
  cases a == c <;> cases b' == d <;> rfl

end Go.Proofs.QQ
end
section
set_option maxRecDepth 100000
set_option linter.unusedVariables false
namespace Go.Proofs.QQ
open Go

theorem bare111 : BareOk Tryz.prog 111 Extern.BytealgCount.count := ⟨Tryz.f111, Tryz.func111, by kernel_rfl, by kernel_rfl, by kernel_rfl, by kernel_rfl⟩
theorem bare226 : BareOk Tryz.prog 226 Extern.BytealgIndexByte.indexByte := ⟨Tryz.f226, Tryz.func226, by kernel_rfl, by kernel_rfl, by kernel_rfl, by kernel_rfl⟩
theorem bare131 : BareOk Tryz.prog 131 Extern.AbiNoEscape.same := ⟨Tryz.f131, Tryz.func131, by kernel_rfl, by kernel_rfl, by kernel_rfl, by kernel_rfl⟩
theorem bare211 : BareOk Tryz.prog 211 (Extern.BytealgMakeNoZero.makeNoZero Tryz.f211.params #[89]) := ⟨Tryz.f211, Tryz.func211, by kernel_rfl, by kernel_rfl, by kernel_rfl, by kernel_rfl⟩

theorem e111 : ExtOk Tryz.prog TT 111 extCount := count_ok bare111
theorem e226 : ExtOk Tryz.prog TT 226 extIndex := index_ok bare226
theorem e131 : ExtOk Tryz.prog TT 131 extSame := same_ok bare131
theorem u89 : Tryz.prog.underlying 89 = some (.slice 5) := by kernel_rfl
theorem e211 : ExtOk Tryz.prog TT 211 (extMake 5) := make_ok u89 bare211

noncomputable def ext0 : NT Ext := .node 131 (.leaf 111 extCount) (.node 211 (.leaf 131 extSame) (.node 226 (.leaf 211 (extMake 5)) (.leaf 226 extIndex)))
theorem ext0_ok : ext0.All (ExtOk Tryz.prog TT) := And.intro e111 (And.intro e131 (And.intro e211 e226))

end Go.Proofs.QQ
end

/- Each function of the table stands in the program, has a text, and its drawn regions are such as the interpreter may take: PRINTED BY A PROGRAM (wip/b10.py). -/
import Derived.Test.YtfckkiebffmkfaaGreatDoorB1
import Derived.KernelRfl
namespace Go.Proofs.YtfckkiebffmkfaaGreatDoor.AM
open Go
set_option maxRecDepth 100000

def bodyOk (fn : Func) : Bool := !(fn.name == "runtime.NumGoroutine") && (match fn.body with | some c => codeOk c | none => false)
def OkAt (P : Program) (f : Nat) (fn : Func) : Prop := P.funcs[f]? = some fn ∧ bodyOk fn = true

theorem OkAt.fOk {P : Program} {f : Nat} {fn : Func} (h : OkAt P f fn) : P.funcs[f]? = some fn ∧ (fn.name == "runtime.NumGoroutine") = false ∧ ∃ c, fn.body = some c ∧ codeOk c = true := by
  obtain ⟨h1, h2⟩ := h
  unfold bodyOk at h2
  rw [Bool.and_eq_true] at h2
  refine ⟨h1, ?_, ?_⟩
  · simpa using h2.1
  · have h3 := h2.2
    cases hb : fn.body with
    | none => rw [hb] at h3; cases h3
    | some c => rw [hb] at h3; exact ⟨c, rfl, h3⟩

theorem ok_node {α : Type} {c : Bool} {a b : Option α} {x : α} {Q : Prop} (h : (if c = true then a else b) = some x) (h1 : a = some x → Q) (h2 : b = some x → Q) : Q := by
  split at h
  · exact h1 h
  · exact h2 h
theorem ok_leaf {P : Program} {f N : Nat} {g fn : Func} (h : (if Nat.beq f N = true then some g else none) = some fn) (hok : OkAt P N g) : OkAt P f fn := by
  split at h
  · rename_i hb
    injection h with h
    subst h
    rw [Nat.eq_of_beq_eq_true hb]
    exact hok
  · cases h

theorem ok4 : OkAt Tryz.prog 4 Tryz.f4 := ⟨Tryz.func4, by kernel_rfl⟩
theorem ok5 : OkAt Tryz.prog 5 Tryz.f5 := ⟨Tryz.func5, by kernel_rfl⟩
theorem ok6 : OkAt Tryz.prog 6 Tryz.f6 := ⟨Tryz.func6, by kernel_rfl⟩
theorem ok7 : OkAt Tryz.prog 7 Tryz.f7 := ⟨Tryz.func7, by kernel_rfl⟩
theorem ok14 : OkAt Tryz.prog 14 Tryz.f14 := ⟨Tryz.func14, by kernel_rfl⟩
theorem ok15 : OkAt Tryz.prog 15 Tryz.f15 := ⟨Tryz.func15, by kernel_rfl⟩
theorem ok16 : OkAt Tryz.prog 16 Tryz.f16 := ⟨Tryz.func16, by kernel_rfl⟩
theorem ok17 : OkAt Tryz.prog 17 Tryz.f17 := ⟨Tryz.func17, by kernel_rfl⟩
theorem ok18 : OkAt Tryz.prog 18 Tryz.f18 := ⟨Tryz.func18, by kernel_rfl⟩
theorem ok19 : OkAt Tryz.prog 19 Tryz.f19 := ⟨Tryz.func19, by kernel_rfl⟩
theorem ok20 : OkAt Tryz.prog 20 Tryz.f20 := ⟨Tryz.func20, by kernel_rfl⟩
theorem ok21 : OkAt Tryz.prog 21 Tryz.f21 := ⟨Tryz.func21, by kernel_rfl⟩
theorem ok22 : OkAt Tryz.prog 22 Tryz.f22 := ⟨Tryz.func22, by kernel_rfl⟩
theorem ok23 : OkAt Tryz.prog 23 Tryz.f23 := ⟨Tryz.func23, by kernel_rfl⟩
theorem ok24 : OkAt Tryz.prog 24 Tryz.f24 := ⟨Tryz.func24, by kernel_rfl⟩
theorem ok25 : OkAt Tryz.prog 25 Tryz.f25 := ⟨Tryz.func25, by kernel_rfl⟩
theorem ok26 : OkAt Tryz.prog 26 Tryz.f26 := ⟨Tryz.func26, by kernel_rfl⟩
theorem ok27 : OkAt Tryz.prog 27 Tryz.f27 := ⟨Tryz.func27, by kernel_rfl⟩
theorem ok40 : OkAt Tryz.prog 40 Tryz.f40 := ⟨Tryz.func40, by kernel_rfl⟩
theorem ok41 : OkAt Tryz.prog 41 Tryz.f41 := ⟨Tryz.func41, by kernel_rfl⟩
theorem ok42 : OkAt Tryz.prog 42 Tryz.f42 := ⟨Tryz.func42, by kernel_rfl⟩
theorem ok43 : OkAt Tryz.prog 43 Tryz.f43 := ⟨Tryz.func43, by kernel_rfl⟩
theorem ok44 : OkAt Tryz.prog 44 Tryz.f44 := ⟨Tryz.func44, by kernel_rfl⟩
theorem ok45 : OkAt Tryz.prog 45 Tryz.f45 := ⟨Tryz.func45, by kernel_rfl⟩
theorem ok48 : OkAt Tryz.prog 48 Tryz.f48 := ⟨Tryz.func48, by kernel_rfl⟩
theorem ok49 : OkAt Tryz.prog 49 Tryz.f49 := ⟨Tryz.func49, by kernel_rfl⟩
theorem ok50 : OkAt Tryz.prog 50 Tryz.f50 := ⟨Tryz.func50, by kernel_rfl⟩
theorem ok51 : OkAt Tryz.prog 51 Tryz.f51 := ⟨Tryz.func51, by kernel_rfl⟩
theorem ok52 : OkAt Tryz.prog 52 Tryz.f52 := ⟨Tryz.func52, by kernel_rfl⟩
theorem ok53 : OkAt Tryz.prog 53 Tryz.f53 := ⟨Tryz.func53, by kernel_rfl⟩
theorem ok54 : OkAt Tryz.prog 54 Tryz.f54 := ⟨Tryz.func54, by kernel_rfl⟩
theorem ok55 : OkAt Tryz.prog 55 Tryz.f55 := ⟨Tryz.func55, by kernel_rfl⟩
theorem ok56 : OkAt Tryz.prog 56 Tryz.f56 := ⟨Tryz.func56, by kernel_rfl⟩
theorem ok57 : OkAt Tryz.prog 57 Tryz.f57 := ⟨Tryz.func57, by kernel_rfl⟩
theorem ok58 : OkAt Tryz.prog 58 Tryz.f58 := ⟨Tryz.func58, by kernel_rfl⟩
theorem ok59 : OkAt Tryz.prog 59 Tryz.f59 := ⟨Tryz.func59, by kernel_rfl⟩
theorem ok60 : OkAt Tryz.prog 60 Tryz.f60 := ⟨Tryz.func60, by kernel_rfl⟩
theorem ok61 : OkAt Tryz.prog 61 Tryz.f61 := ⟨Tryz.func61, by kernel_rfl⟩
theorem ok62 : OkAt Tryz.prog 62 Tryz.f62 := ⟨Tryz.func62, by kernel_rfl⟩
theorem ok63 : OkAt Tryz.prog 63 Tryz.f63 := ⟨Tryz.func63, by kernel_rfl⟩
theorem ok64 : OkAt Tryz.prog 64 Tryz.f64 := ⟨Tryz.func64, by kernel_rfl⟩
theorem ok65 : OkAt Tryz.prog 65 Tryz.f65 := ⟨Tryz.func65, by kernel_rfl⟩
theorem ok66 : OkAt Tryz.prog 66 Tryz.f66 := ⟨Tryz.func66, by kernel_rfl⟩
theorem ok67 : OkAt Tryz.prog 67 Tryz.f67 := ⟨Tryz.func67, by kernel_rfl⟩
theorem ok68 : OkAt Tryz.prog 68 Tryz.f68 := ⟨Tryz.func68, by kernel_rfl⟩
theorem ok69 : OkAt Tryz.prog 69 Tryz.f69 := ⟨Tryz.func69, by kernel_rfl⟩
theorem ok70 : OkAt Tryz.prog 70 Tryz.f70 := ⟨Tryz.func70, by kernel_rfl⟩
theorem ok92 : OkAt Tryz.prog 92 Tryz.f92 := ⟨Tryz.func92, by kernel_rfl⟩
theorem ok93 : OkAt Tryz.prog 93 Tryz.f93 := ⟨Tryz.func93, by kernel_rfl⟩
theorem ok94 : OkAt Tryz.prog 94 Tryz.f94 := ⟨Tryz.func94, by kernel_rfl⟩
theorem ok95 : OkAt Tryz.prog 95 Tryz.f95 := ⟨Tryz.func95, by kernel_rfl⟩
theorem ok96 : OkAt Tryz.prog 96 Tryz.f96 := ⟨Tryz.func96, by kernel_rfl⟩
theorem ok97 : OkAt Tryz.prog 97 Tryz.f97 := ⟨Tryz.func97, by kernel_rfl⟩
theorem ok98 : OkAt Tryz.prog 98 Tryz.f98 := ⟨Tryz.func98, by kernel_rfl⟩
theorem ok99 : OkAt Tryz.prog 99 Tryz.f99 := ⟨Tryz.func99, by kernel_rfl⟩
theorem ok100 : OkAt Tryz.prog 100 Tryz.f100 := ⟨Tryz.func100, by kernel_rfl⟩
theorem ok101 : OkAt Tryz.prog 101 Tryz.f101 := ⟨Tryz.func101, by kernel_rfl⟩
theorem ok102 : OkAt Tryz.prog 102 Tryz.f102 := ⟨Tryz.func102, by kernel_rfl⟩
theorem ok103 : OkAt Tryz.prog 103 Tryz.f103 := ⟨Tryz.func103, by kernel_rfl⟩
theorem ok104 : OkAt Tryz.prog 104 Tryz.f104 := ⟨Tryz.func104, by kernel_rfl⟩
theorem ok105 : OkAt Tryz.prog 105 Tryz.f105 := ⟨Tryz.func105, by kernel_rfl⟩
theorem ok106 : OkAt Tryz.prog 106 Tryz.f106 := ⟨Tryz.func106, by kernel_rfl⟩
theorem ok107 : OkAt Tryz.prog 107 Tryz.f107 := ⟨Tryz.func107, by kernel_rfl⟩
theorem ok108 : OkAt Tryz.prog 108 Tryz.f108 := ⟨Tryz.func108, by kernel_rfl⟩
theorem ok109 : OkAt Tryz.prog 109 Tryz.f109 := ⟨Tryz.func109, by kernel_rfl⟩
theorem ok110 : OkAt Tryz.prog 110 Tryz.f110 := ⟨Tryz.func110, by kernel_rfl⟩
theorem ok111 : OkAt Tryz.prog 111 Tryz.f111 := ⟨Tryz.func111, by kernel_rfl⟩
theorem ok112 : OkAt Tryz.prog 112 Tryz.f112 := ⟨Tryz.func112, by kernel_rfl⟩
theorem ok113 : OkAt Tryz.prog 113 Tryz.f113 := ⟨Tryz.func113, by kernel_rfl⟩
theorem ok115 : OkAt Tryz.prog 115 Tryz.f115 := ⟨Tryz.func115, by kernel_rfl⟩
theorem ok117 : OkAt Tryz.prog 117 Tryz.f117 := ⟨Tryz.func117, by kernel_rfl⟩
theorem ok118 : OkAt Tryz.prog 118 Tryz.f118 := ⟨Tryz.func118, by kernel_rfl⟩
theorem ok119 : OkAt Tryz.prog 119 Tryz.f119 := ⟨Tryz.func119, by kernel_rfl⟩
theorem ok120 : OkAt Tryz.prog 120 Tryz.f120 := ⟨Tryz.func120, by kernel_rfl⟩
theorem ok121 : OkAt Tryz.prog 121 Tryz.f121 := ⟨Tryz.func121, by kernel_rfl⟩
theorem ok122 : OkAt Tryz.prog 122 Tryz.f122 := ⟨Tryz.func122, by kernel_rfl⟩
theorem ok123 : OkAt Tryz.prog 123 Tryz.f123 := ⟨Tryz.func123, by kernel_rfl⟩
theorem ok124 : OkAt Tryz.prog 124 Tryz.f124 := ⟨Tryz.func124, by kernel_rfl⟩
theorem ok125 : OkAt Tryz.prog 125 Tryz.f125 := ⟨Tryz.func125, by kernel_rfl⟩
theorem ok126 : OkAt Tryz.prog 126 Tryz.f126 := ⟨Tryz.func126, by kernel_rfl⟩
theorem ok127 : OkAt Tryz.prog 127 Tryz.f127 := ⟨Tryz.func127, by kernel_rfl⟩
theorem ok128 : OkAt Tryz.prog 128 Tryz.f128 := ⟨Tryz.func128, by kernel_rfl⟩
theorem ok129 : OkAt Tryz.prog 129 Tryz.f129 := ⟨Tryz.func129, by kernel_rfl⟩
theorem ok130 : OkAt Tryz.prog 130 Tryz.f130 := ⟨Tryz.func130, by kernel_rfl⟩
theorem ok131 : OkAt Tryz.prog 131 Tryz.f131 := ⟨Tryz.func131, by kernel_rfl⟩
theorem ok132 : OkAt Tryz.prog 132 Tryz.f132 := ⟨Tryz.func132, by kernel_rfl⟩
theorem ok133 : OkAt Tryz.prog 133 Tryz.f133 := ⟨Tryz.func133, by kernel_rfl⟩
theorem ok134 : OkAt Tryz.prog 134 Tryz.f134 := ⟨Tryz.func134, by kernel_rfl⟩
theorem ok135 : OkAt Tryz.prog 135 Tryz.f135 := ⟨Tryz.func135, by kernel_rfl⟩
theorem ok136 : OkAt Tryz.prog 136 Tryz.f136 := ⟨Tryz.func136, by kernel_rfl⟩
theorem ok137 : OkAt Tryz.prog 137 Tryz.f137 := ⟨Tryz.func137, by kernel_rfl⟩
theorem ok138 : OkAt Tryz.prog 138 Tryz.f138 := ⟨Tryz.func138, by kernel_rfl⟩
theorem ok144 : OkAt Tryz.prog 144 Tryz.f144 := ⟨Tryz.func144, by kernel_rfl⟩
theorem ok159 : OkAt Tryz.prog 159 Tryz.f159 := ⟨Tryz.func159, by kernel_rfl⟩
theorem ok160 : OkAt Tryz.prog 160 Tryz.f160 := ⟨Tryz.func160, by kernel_rfl⟩
theorem ok161 : OkAt Tryz.prog 161 Tryz.f161 := ⟨Tryz.func161, by kernel_rfl⟩
theorem ok162 : OkAt Tryz.prog 162 Tryz.f162 := ⟨Tryz.func162, by kernel_rfl⟩
theorem ok163 : OkAt Tryz.prog 163 Tryz.f163 := ⟨Tryz.func163, by kernel_rfl⟩
theorem ok164 : OkAt Tryz.prog 164 Tryz.f164 := ⟨Tryz.func164, by kernel_rfl⟩
theorem ok165 : OkAt Tryz.prog 165 Tryz.f165 := ⟨Tryz.func165, by kernel_rfl⟩
theorem ok166 : OkAt Tryz.prog 166 Tryz.f166 := ⟨Tryz.func166, by kernel_rfl⟩
theorem ok167 : OkAt Tryz.prog 167 Tryz.f167 := ⟨Tryz.func167, by kernel_rfl⟩
theorem ok168 : OkAt Tryz.prog 168 Tryz.f168 := ⟨Tryz.func168, by kernel_rfl⟩
theorem ok170 : OkAt Tryz.prog 170 Tryz.f170 := ⟨Tryz.func170, by kernel_rfl⟩
theorem ok171 : OkAt Tryz.prog 171 Tryz.f171 := ⟨Tryz.func171, by kernel_rfl⟩
theorem ok172 : OkAt Tryz.prog 172 Tryz.f172 := ⟨Tryz.func172, by kernel_rfl⟩
theorem ok173 : OkAt Tryz.prog 173 Tryz.f173 := ⟨Tryz.func173, by kernel_rfl⟩
theorem ok174 : OkAt Tryz.prog 174 Tryz.f174 := ⟨Tryz.func174, by kernel_rfl⟩
theorem ok175 : OkAt Tryz.prog 175 Tryz.f175 := ⟨Tryz.func175, by kernel_rfl⟩
theorem ok176 : OkAt Tryz.prog 176 Tryz.f176 := ⟨Tryz.func176, by kernel_rfl⟩
theorem ok177 : OkAt Tryz.prog 177 Tryz.f177 := ⟨Tryz.func177, by kernel_rfl⟩
theorem ok178 : OkAt Tryz.prog 178 Tryz.f178 := ⟨Tryz.func178, by kernel_rfl⟩
theorem ok179 : OkAt Tryz.prog 179 Tryz.f179 := ⟨Tryz.func179, by kernel_rfl⟩
theorem ok180 : OkAt Tryz.prog 180 Tryz.f180 := ⟨Tryz.func180, by kernel_rfl⟩
theorem ok181 : OkAt Tryz.prog 181 Tryz.f181 := ⟨Tryz.func181, by kernel_rfl⟩
theorem ok182 : OkAt Tryz.prog 182 Tryz.f182 := ⟨Tryz.func182, by kernel_rfl⟩
theorem ok183 : OkAt Tryz.prog 183 Tryz.f183 := ⟨Tryz.func183, by kernel_rfl⟩
theorem ok184 : OkAt Tryz.prog 184 Tryz.f184 := ⟨Tryz.func184, by kernel_rfl⟩
theorem ok185 : OkAt Tryz.prog 185 Tryz.f185 := ⟨Tryz.func185, by kernel_rfl⟩
theorem ok186 : OkAt Tryz.prog 186 Tryz.f186 := ⟨Tryz.func186, by kernel_rfl⟩
theorem ok187 : OkAt Tryz.prog 187 Tryz.f187 := ⟨Tryz.func187, by kernel_rfl⟩
theorem ok188 : OkAt Tryz.prog 188 Tryz.f188 := ⟨Tryz.func188, by kernel_rfl⟩
theorem ok189 : OkAt Tryz.prog 189 Tryz.f189 := ⟨Tryz.func189, by kernel_rfl⟩
theorem ok190 : OkAt Tryz.prog 190 Tryz.f190 := ⟨Tryz.func190, by kernel_rfl⟩
theorem ok191 : OkAt Tryz.prog 191 Tryz.f191 := ⟨Tryz.func191, by kernel_rfl⟩
theorem ok192 : OkAt Tryz.prog 192 Tryz.f192 := ⟨Tryz.func192, by kernel_rfl⟩
theorem ok198 : OkAt Tryz.prog 198 Tryz.f198 := ⟨Tryz.func198, by kernel_rfl⟩
theorem ok211 : OkAt Tryz.prog 211 Tryz.f211 := ⟨Tryz.func211, by kernel_rfl⟩
theorem ok212 : OkAt Tryz.prog 212 Tryz.f212 := ⟨Tryz.func212, by kernel_rfl⟩
theorem ok213 : OkAt Tryz.prog 213 Tryz.f213 := ⟨Tryz.func213, by kernel_rfl⟩
theorem ok214 : OkAt Tryz.prog 214 Tryz.f214 := ⟨Tryz.func214, by kernel_rfl⟩
theorem ok215 : OkAt Tryz.prog 215 Tryz.f215 := ⟨Tryz.func215, by kernel_rfl⟩
theorem ok216 : OkAt Tryz.prog 216 Tryz.f216 := ⟨Tryz.func216, by kernel_rfl⟩
theorem ok217 : OkAt Tryz.prog 217 Tryz.f217 := ⟨Tryz.func217, by kernel_rfl⟩
theorem ok218 : OkAt Tryz.prog 218 Tryz.f218 := ⟨Tryz.func218, by kernel_rfl⟩
theorem ok219 : OkAt Tryz.prog 219 Tryz.f219 := ⟨Tryz.func219, by kernel_rfl⟩
theorem ok220 : OkAt Tryz.prog 220 Tryz.f220 := ⟨Tryz.func220, by kernel_rfl⟩
theorem ok221 : OkAt Tryz.prog 221 Tryz.f221 := ⟨Tryz.func221, by kernel_rfl⟩
theorem ok222 : OkAt Tryz.prog 222 Tryz.f222 := ⟨Tryz.func222, by kernel_rfl⟩
theorem ok223 : OkAt Tryz.prog 223 Tryz.f223 := ⟨Tryz.func223, by kernel_rfl⟩
theorem ok224 : OkAt Tryz.prog 224 Tryz.f224 := ⟨Tryz.func224, by kernel_rfl⟩
theorem ok225 : OkAt Tryz.prog 225 Tryz.f225 := ⟨Tryz.func225, by kernel_rfl⟩
theorem ok226 : OkAt Tryz.prog 226 Tryz.f226 := ⟨Tryz.func226, by kernel_rfl⟩
theorem ok227 : OkAt Tryz.prog 227 Tryz.f227 := ⟨Tryz.func227, by kernel_rfl⟩
theorem ok228 : OkAt Tryz.prog 228 Tryz.f228 := ⟨Tryz.func228, by kernel_rfl⟩
theorem ok229 : OkAt Tryz.prog 229 Tryz.f229 := ⟨Tryz.func229, by kernel_rfl⟩
theorem ok230 : OkAt Tryz.prog 230 Tryz.f230 := ⟨Tryz.func230, by kernel_rfl⟩
theorem ok231 : OkAt Tryz.prog 231 Tryz.f231 := ⟨Tryz.func231, by kernel_rfl⟩
theorem ok232 : OkAt Tryz.prog 232 Tryz.f232 := ⟨Tryz.func232, by kernel_rfl⟩
theorem ok233 : OkAt Tryz.prog 233 Tryz.f233 := ⟨Tryz.func233, by kernel_rfl⟩
theorem ok234 : OkAt Tryz.prog 234 Tryz.f234 := ⟨Tryz.func234, by kernel_rfl⟩
theorem ok235 : OkAt Tryz.prog 235 Tryz.f235 := ⟨Tryz.func235, by kernel_rfl⟩
theorem ok236 : OkAt Tryz.prog 236 Tryz.f236 := ⟨Tryz.func236, by kernel_rfl⟩
theorem ok237 : OkAt Tryz.prog 237 Tryz.f237 := ⟨Tryz.func237, by kernel_rfl⟩
theorem ok238 : OkAt Tryz.prog 238 Tryz.f238 := ⟨Tryz.func238, by kernel_rfl⟩
theorem ok239 : OkAt Tryz.prog 239 Tryz.f239 := ⟨Tryz.func239, by kernel_rfl⟩
theorem ok240 : OkAt Tryz.prog 240 Tryz.f240 := ⟨Tryz.func240, by kernel_rfl⟩
theorem ok241 : OkAt Tryz.prog 241 Tryz.f241 := ⟨Tryz.func241, by kernel_rfl⟩
theorem ok242 : OkAt Tryz.prog 242 Tryz.f242 := ⟨Tryz.func242, by kernel_rfl⟩
theorem ok253 : OkAt Tryz.prog 253 Tryz.f253 := ⟨Tryz.func253, by kernel_rfl⟩
theorem ok254 : OkAt Tryz.prog 254 Tryz.f254 := ⟨Tryz.func254, by kernel_rfl⟩
theorem ok255 : OkAt Tryz.prog 255 Tryz.f255 := ⟨Tryz.func255, by kernel_rfl⟩
theorem ok256 : OkAt Tryz.prog 256 Tryz.f256 := ⟨Tryz.func256, by kernel_rfl⟩
theorem ok257 : OkAt Tryz.prog 257 Tryz.f257 := ⟨Tryz.func257, by kernel_rfl⟩
theorem ok258 : OkAt Tryz.prog 258 Tryz.f258 := ⟨Tryz.func258, by kernel_rfl⟩
theorem ok259 : OkAt Tryz.prog 259 Tryz.f259 := ⟨Tryz.func259, by kernel_rfl⟩
theorem ok260 : OkAt Tryz.prog 260 Tryz.f260 := ⟨Tryz.func260, by kernel_rfl⟩
theorem ok261 : OkAt Tryz.prog 261 Tryz.f261 := ⟨Tryz.func261, by kernel_rfl⟩
theorem ok262 : OkAt Tryz.prog 262 Tryz.f262 := ⟨Tryz.func262, by kernel_rfl⟩
theorem ok263 : OkAt Tryz.prog 263 Tryz.f263 := ⟨Tryz.func263, by kernel_rfl⟩
theorem ok264 : OkAt Tryz.prog 264 Tryz.f264 := ⟨Tryz.func264, by kernel_rfl⟩
theorem ok265 : OkAt Tryz.prog 265 Tryz.f265 := ⟨Tryz.func265, by kernel_rfl⟩
theorem ok266 : OkAt Tryz.prog 266 Tryz.f266 := ⟨Tryz.func266, by kernel_rfl⟩
theorem ok267 : OkAt Tryz.prog 267 Tryz.f267 := ⟨Tryz.func267, by kernel_rfl⟩
theorem ok268 : OkAt Tryz.prog 268 Tryz.f268 := ⟨Tryz.func268, by kernel_rfl⟩
theorem ok269 : OkAt Tryz.prog 269 Tryz.f269 := ⟨Tryz.func269, by kernel_rfl⟩
theorem ok270 : OkAt Tryz.prog 270 Tryz.f270 := ⟨Tryz.func270, by kernel_rfl⟩
theorem ok271 : OkAt Tryz.prog 271 Tryz.f271 := ⟨Tryz.func271, by kernel_rfl⟩
theorem ok272 : OkAt Tryz.prog 272 Tryz.f272 := ⟨Tryz.func272, by kernel_rfl⟩
theorem ok282 : OkAt Tryz.prog 282 Tryz.f282 := ⟨Tryz.func282, by kernel_rfl⟩
theorem ok283 : OkAt Tryz.prog 283 Tryz.f283 := ⟨Tryz.func283, by kernel_rfl⟩
theorem ok284 : OkAt Tryz.prog 284 Tryz.f284 := ⟨Tryz.func284, by kernel_rfl⟩
theorem ok285 : OkAt Tryz.prog 285 Tryz.f285 := ⟨Tryz.func285, by kernel_rfl⟩
theorem ok286 : OkAt Tryz.prog 286 Tryz.f286 := ⟨Tryz.func286, by kernel_rfl⟩
theorem ok287 : OkAt Tryz.prog 287 Tryz.f287 := ⟨Tryz.func287, by kernel_rfl⟩
theorem ok288 : OkAt Tryz.prog 288 Tryz.f288 := ⟨Tryz.func288, by kernel_rfl⟩
theorem ok289 : OkAt Tryz.prog 289 Tryz.f289 := ⟨Tryz.func289, by kernel_rfl⟩
theorem ok290 : OkAt Tryz.prog 290 Tryz.f290 := ⟨Tryz.func290, by kernel_rfl⟩
theorem ok291 : OkAt Tryz.prog 291 Tryz.f291 := ⟨Tryz.func291, by kernel_rfl⟩
theorem ok292 : OkAt Tryz.prog 292 Tryz.f292 := ⟨Tryz.func292, by kernel_rfl⟩
theorem ok293 : OkAt Tryz.prog 293 Tryz.f293 := ⟨Tryz.func293, by kernel_rfl⟩
theorem ok294 : OkAt Tryz.prog 294 Tryz.f294 := ⟨Tryz.func294, by kernel_rfl⟩
theorem ok295 : OkAt Tryz.prog 295 Tryz.f295 := ⟨Tryz.func295, by kernel_rfl⟩
theorem ok296 : OkAt Tryz.prog 296 Tryz.f296 := ⟨Tryz.func296, by kernel_rfl⟩
theorem ok297 : OkAt Tryz.prog 297 Tryz.f297 := ⟨Tryz.func297, by kernel_rfl⟩
theorem ok307 : OkAt Tryz.prog 307 Tryz.f307 := ⟨Tryz.func307, by kernel_rfl⟩
theorem ok308 : OkAt Tryz.prog 308 Tryz.f308 := ⟨Tryz.func308, by kernel_rfl⟩
theorem ok309 : OkAt Tryz.prog 309 Tryz.f309 := ⟨Tryz.func309, by kernel_rfl⟩
theorem ok310 : OkAt Tryz.prog 310 Tryz.f310 := ⟨Tryz.func310, by kernel_rfl⟩
theorem ok318 : OkAt Tryz.prog 318 Tryz.f318 := ⟨Tryz.func318, by kernel_rfl⟩
theorem ok325 : OkAt Tryz.prog 325 Tryz.f325 := ⟨Tryz.func325, by kernel_rfl⟩
theorem ok339 : OkAt Tryz.prog 339 Tryz.f339 := ⟨Tryz.func339, by kernel_rfl⟩
theorem ok340 : OkAt Tryz.prog 340 Tryz.f340 := ⟨Tryz.func340, by kernel_rfl⟩
theorem ok341 : OkAt Tryz.prog 341 Tryz.f341 := ⟨Tryz.func341, by kernel_rfl⟩

theorem FB_okAt {f : Nat} {fn : Func} (h : FB f = some fn) : OkAt Tryz.prog f fn :=
  ok_node h (fun h => ok_node h (fun h => ok_node h (fun h => ok_node h (fun h => ok_node h (fun h => ok_node h (fun h => ok_node h (fun h => ok_leaf h ok4) (fun h => ok_node h (fun h => ok_leaf h ok5) (fun h => ok_leaf h ok6))) (fun h => ok_node h (fun h => ok_leaf h ok7) (fun h => ok_node h (fun h => ok_leaf h ok14) (fun h => ok_leaf h ok15)))) (fun h => ok_node h (fun h => ok_node h (fun h => ok_leaf h ok16) (fun h => ok_node h (fun h => ok_leaf h ok17) (fun h => ok_leaf h ok18))) (fun h => ok_node h (fun h => ok_leaf h ok19) (fun h => ok_node h (fun h => ok_leaf h ok20) (fun h => ok_leaf h ok21))))) (fun h => ok_node h (fun h => ok_node h (fun h => ok_node h (fun h => ok_leaf h ok22) (fun h => ok_node h (fun h => ok_leaf h ok23) (fun h => ok_leaf h ok24))) (fun h => ok_node h (fun h => ok_leaf h ok25) (fun h => ok_node h (fun h => ok_leaf h ok26) (fun h => ok_leaf h ok27)))) (fun h => ok_node h (fun h => ok_node h (fun h => ok_leaf h ok40) (fun h => ok_node h (fun h => ok_leaf h ok41) (fun h => ok_leaf h ok42))) (fun h => ok_node h (fun h => ok_node h (fun h => ok_leaf h ok43) (fun h => ok_leaf h ok44)) (fun h => ok_node h (fun h => ok_leaf h ok45) (fun h => ok_leaf h ok48)))))) (fun h => ok_node h (fun h => ok_node h (fun h => ok_node h (fun h => ok_node h (fun h => ok_leaf h ok49) (fun h => ok_node h (fun h => ok_leaf h ok50) (fun h => ok_leaf h ok51))) (fun h => ok_node h (fun h => ok_leaf h ok52) (fun h => ok_node h (fun h => ok_leaf h ok53) (fun h => ok_leaf h ok54)))) (fun h => ok_node h (fun h => ok_node h (fun h => ok_leaf h ok55) (fun h => ok_node h (fun h => ok_leaf h ok56) (fun h => ok_leaf h ok57))) (fun h => ok_node h (fun h => ok_node h (fun h => ok_leaf h ok58) (fun h => ok_leaf h ok59)) (fun h => ok_node h (fun h => ok_leaf h ok60) (fun h => ok_leaf h ok61))))) (fun h => ok_node h (fun h => ok_node h (fun h => ok_node h (fun h => ok_leaf h ok62) (fun h => ok_node h (fun h => ok_leaf h ok63) (fun h => ok_leaf h ok64))) (fun h => ok_node h (fun h => ok_leaf h ok65) (fun h => ok_node h (fun h => ok_leaf h ok66) (fun h => ok_leaf h ok67)))) (fun h => ok_node h (fun h => ok_node h (fun h => ok_leaf h ok68) (fun h => ok_node h (fun h => ok_leaf h ok69) (fun h => ok_leaf h ok70))) (fun h => ok_node h (fun h => ok_node h (fun h => ok_leaf h ok92) (fun h => ok_leaf h ok93)) (fun h => ok_node h (fun h => ok_leaf h ok94) (fun h => ok_leaf h ok95))))))) (fun h => ok_node h (fun h => ok_node h (fun h => ok_node h (fun h => ok_node h (fun h => ok_node h (fun h => ok_leaf h ok96) (fun h => ok_node h (fun h => ok_leaf h ok97) (fun h => ok_leaf h ok98))) (fun h => ok_node h (fun h => ok_leaf h ok99) (fun h => ok_node h (fun h => ok_leaf h ok100) (fun h => ok_leaf h ok101)))) (fun h => ok_node h (fun h => ok_node h (fun h => ok_leaf h ok102) (fun h => ok_node h (fun h => ok_leaf h ok103) (fun h => ok_leaf h ok104))) (fun h => ok_node h (fun h => ok_leaf h ok105) (fun h => ok_node h (fun h => ok_leaf h ok106) (fun h => ok_leaf h ok107))))) (fun h => ok_node h (fun h => ok_node h (fun h => ok_node h (fun h => ok_leaf h ok108) (fun h => ok_node h (fun h => ok_leaf h ok109) (fun h => ok_leaf h ok110))) (fun h => ok_node h (fun h => ok_leaf h ok111) (fun h => ok_node h (fun h => ok_leaf h ok112) (fun h => ok_leaf h ok113)))) (fun h => ok_node h (fun h => ok_node h (fun h => ok_leaf h ok115) (fun h => ok_node h (fun h => ok_leaf h ok117) (fun h => ok_leaf h ok118))) (fun h => ok_node h (fun h => ok_node h (fun h => ok_leaf h ok119) (fun h => ok_leaf h ok120)) (fun h => ok_node h (fun h => ok_leaf h ok121) (fun h => ok_leaf h ok122)))))) (fun h => ok_node h (fun h => ok_node h (fun h => ok_node h (fun h => ok_node h (fun h => ok_leaf h ok123) (fun h => ok_node h (fun h => ok_leaf h ok124) (fun h => ok_leaf h ok125))) (fun h => ok_node h (fun h => ok_leaf h ok126) (fun h => ok_node h (fun h => ok_leaf h ok127) (fun h => ok_leaf h ok128)))) (fun h => ok_node h (fun h => ok_node h (fun h => ok_leaf h ok129) (fun h => ok_node h (fun h => ok_leaf h ok130) (fun h => ok_leaf h ok131))) (fun h => ok_node h (fun h => ok_node h (fun h => ok_leaf h ok132) (fun h => ok_leaf h ok133)) (fun h => ok_node h (fun h => ok_leaf h ok134) (fun h => ok_leaf h ok135))))) (fun h => ok_node h (fun h => ok_node h (fun h => ok_node h (fun h => ok_leaf h ok136) (fun h => ok_node h (fun h => ok_leaf h ok137) (fun h => ok_leaf h ok138))) (fun h => ok_node h (fun h => ok_leaf h ok144) (fun h => ok_node h (fun h => ok_leaf h ok159) (fun h => ok_leaf h ok160)))) (fun h => ok_node h (fun h => ok_node h (fun h => ok_leaf h ok161) (fun h => ok_node h (fun h => ok_leaf h ok162) (fun h => ok_leaf h ok163))) (fun h => ok_node h (fun h => ok_node h (fun h => ok_leaf h ok164) (fun h => ok_leaf h ok165)) (fun h => ok_node h (fun h => ok_leaf h ok166) (fun h => ok_leaf h ok167)))))))) (fun h => ok_node h (fun h => ok_node h (fun h => ok_node h (fun h => ok_node h (fun h => ok_node h (fun h => ok_node h (fun h => ok_leaf h ok168) (fun h => ok_node h (fun h => ok_leaf h ok170) (fun h => ok_leaf h ok171))) (fun h => ok_node h (fun h => ok_leaf h ok172) (fun h => ok_node h (fun h => ok_leaf h ok173) (fun h => ok_leaf h ok174)))) (fun h => ok_node h (fun h => ok_node h (fun h => ok_leaf h ok175) (fun h => ok_node h (fun h => ok_leaf h ok176) (fun h => ok_leaf h ok177))) (fun h => ok_node h (fun h => ok_leaf h ok178) (fun h => ok_node h (fun h => ok_leaf h ok179) (fun h => ok_leaf h ok180))))) (fun h => ok_node h (fun h => ok_node h (fun h => ok_node h (fun h => ok_leaf h ok181) (fun h => ok_node h (fun h => ok_leaf h ok182) (fun h => ok_leaf h ok183))) (fun h => ok_node h (fun h => ok_leaf h ok184) (fun h => ok_node h (fun h => ok_leaf h ok185) (fun h => ok_leaf h ok186)))) (fun h => ok_node h (fun h => ok_node h (fun h => ok_leaf h ok187) (fun h => ok_node h (fun h => ok_leaf h ok188) (fun h => ok_leaf h ok189))) (fun h => ok_node h (fun h => ok_node h (fun h => ok_leaf h ok190) (fun h => ok_leaf h ok191)) (fun h => ok_node h (fun h => ok_leaf h ok192) (fun h => ok_leaf h ok198)))))) (fun h => ok_node h (fun h => ok_node h (fun h => ok_node h (fun h => ok_node h (fun h => ok_leaf h ok211) (fun h => ok_node h (fun h => ok_leaf h ok212) (fun h => ok_leaf h ok213))) (fun h => ok_node h (fun h => ok_leaf h ok214) (fun h => ok_node h (fun h => ok_leaf h ok215) (fun h => ok_leaf h ok216)))) (fun h => ok_node h (fun h => ok_node h (fun h => ok_leaf h ok217) (fun h => ok_node h (fun h => ok_leaf h ok218) (fun h => ok_leaf h ok219))) (fun h => ok_node h (fun h => ok_node h (fun h => ok_leaf h ok220) (fun h => ok_leaf h ok221)) (fun h => ok_node h (fun h => ok_leaf h ok222) (fun h => ok_leaf h ok223))))) (fun h => ok_node h (fun h => ok_node h (fun h => ok_node h (fun h => ok_leaf h ok224) (fun h => ok_node h (fun h => ok_leaf h ok225) (fun h => ok_leaf h ok226))) (fun h => ok_node h (fun h => ok_leaf h ok227) (fun h => ok_node h (fun h => ok_leaf h ok228) (fun h => ok_leaf h ok229)))) (fun h => ok_node h (fun h => ok_node h (fun h => ok_leaf h ok230) (fun h => ok_node h (fun h => ok_leaf h ok231) (fun h => ok_leaf h ok232))) (fun h => ok_node h (fun h => ok_node h (fun h => ok_leaf h ok233) (fun h => ok_leaf h ok234)) (fun h => ok_node h (fun h => ok_leaf h ok235) (fun h => ok_leaf h ok236))))))) (fun h => ok_node h (fun h => ok_node h (fun h => ok_node h (fun h => ok_node h (fun h => ok_node h (fun h => ok_leaf h ok237) (fun h => ok_node h (fun h => ok_leaf h ok238) (fun h => ok_leaf h ok239))) (fun h => ok_node h (fun h => ok_leaf h ok240) (fun h => ok_node h (fun h => ok_leaf h ok241) (fun h => ok_leaf h ok242)))) (fun h => ok_node h (fun h => ok_node h (fun h => ok_leaf h ok253) (fun h => ok_node h (fun h => ok_leaf h ok254) (fun h => ok_leaf h ok255))) (fun h => ok_node h (fun h => ok_leaf h ok256) (fun h => ok_node h (fun h => ok_leaf h ok257) (fun h => ok_leaf h ok258))))) (fun h => ok_node h (fun h => ok_node h (fun h => ok_node h (fun h => ok_leaf h ok259) (fun h => ok_node h (fun h => ok_leaf h ok260) (fun h => ok_leaf h ok261))) (fun h => ok_node h (fun h => ok_leaf h ok262) (fun h => ok_node h (fun h => ok_leaf h ok263) (fun h => ok_leaf h ok264)))) (fun h => ok_node h (fun h => ok_node h (fun h => ok_leaf h ok265) (fun h => ok_node h (fun h => ok_leaf h ok266) (fun h => ok_leaf h ok267))) (fun h => ok_node h (fun h => ok_node h (fun h => ok_leaf h ok268) (fun h => ok_leaf h ok269)) (fun h => ok_node h (fun h => ok_leaf h ok270) (fun h => ok_leaf h ok271)))))) (fun h => ok_node h (fun h => ok_node h (fun h => ok_node h (fun h => ok_node h (fun h => ok_leaf h ok272) (fun h => ok_node h (fun h => ok_leaf h ok282) (fun h => ok_leaf h ok283))) (fun h => ok_node h (fun h => ok_leaf h ok284) (fun h => ok_node h (fun h => ok_leaf h ok285) (fun h => ok_leaf h ok286)))) (fun h => ok_node h (fun h => ok_node h (fun h => ok_leaf h ok287) (fun h => ok_node h (fun h => ok_leaf h ok288) (fun h => ok_leaf h ok289))) (fun h => ok_node h (fun h => ok_node h (fun h => ok_leaf h ok290) (fun h => ok_leaf h ok291)) (fun h => ok_node h (fun h => ok_leaf h ok292) (fun h => ok_leaf h ok293))))) (fun h => ok_node h (fun h => ok_node h (fun h => ok_node h (fun h => ok_leaf h ok294) (fun h => ok_node h (fun h => ok_leaf h ok295) (fun h => ok_leaf h ok296))) (fun h => ok_node h (fun h => ok_leaf h ok297) (fun h => ok_node h (fun h => ok_leaf h ok307) (fun h => ok_leaf h ok308)))) (fun h => ok_node h (fun h => ok_node h (fun h => ok_leaf h ok309) (fun h => ok_node h (fun h => ok_leaf h ok310) (fun h => ok_leaf h ok318))) (fun h => ok_node h (fun h => ok_node h (fun h => ok_leaf h ok325) (fun h => ok_leaf h ok339)) (fun h => ok_node h (fun h => ok_leaf h ok340) (fun h => ok_leaf h ok341))))))))
theorem FB_ok : FOk Tryz.prog FB := fun _ _ h => (FB_okAt h).fOk

end Go.Proofs.YtfckkiebffmkfaaGreatDoor.AM

/- The code of the evaluator is the given program: checked function by function. -/
import Derived.Test.YtdppeaciahdekaaGreatSimUse
import Derived.Test.YtdppeaciahdekaaGreatCodeCN0
import Derived.Test.YtdppeaciahdekaaGreatChecked
import Derived.KernelRfl
namespace Go.Sim.CN
set_option maxRecDepth 100000
theorem ok3 : ∃ fn c, FuncOK Go.Proofs.Tryz.prog E 3 fn c a3 := let ⟨c, h⟩ := funcChk_sound Go.Proofs.Tryz.func3 (by kernel_rfl); ⟨_, c, h⟩
theorem ok9 : ∃ fn c, FuncOK Go.Proofs.Tryz.prog E 9 fn c a9 := let ⟨c, h⟩ := funcChk_sound Go.Proofs.Tryz.func9 (by kernel_rfl); ⟨_, c, h⟩
theorem ok10 : ∃ fn c, FuncOK Go.Proofs.Tryz.prog E 10 fn c a10 := let ⟨c, h⟩ := funcChk_sound Go.Proofs.Tryz.func10 (by kernel_rfl); ⟨_, c, h⟩
theorem ok11 : ∃ fn c, FuncOK Go.Proofs.Tryz.prog E 11 fn c a11 := let ⟨c, h⟩ := funcChk_sound Go.Proofs.Tryz.func11 (by kernel_rfl); ⟨_, c, h⟩
theorem ok12 : ∃ fn c, FuncOK Go.Proofs.Tryz.prog E 12 fn c a12 := let ⟨c, h⟩ := funcChk_sound Go.Proofs.Tryz.func12 (by kernel_rfl); ⟨_, c, h⟩
theorem ok13 : ∃ fn c, FuncOK Go.Proofs.Tryz.prog E 13 fn c a13 := let ⟨c, h⟩ := funcChk_sound Go.Proofs.Tryz.func13 (by kernel_rfl); ⟨_, c, h⟩
theorem ok14 : ∃ fn c, FuncOK Go.Proofs.Tryz.prog E 14 fn c a14 := let ⟨c, h⟩ := funcChk_sound Go.Proofs.Tryz.func14 (by kernel_rfl); ⟨_, c, h⟩
theorem ok15 : ∃ fn c, FuncOK Go.Proofs.Tryz.prog E 15 fn c a15 := let ⟨c, h⟩ := funcChk_sound Go.Proofs.Tryz.func15 (by kernel_rfl); ⟨_, c, h⟩
theorem ok16 : ∃ fn c, FuncOK Go.Proofs.Tryz.prog E 16 fn c a16 := let ⟨c, h⟩ := funcChk_sound Go.Proofs.Tryz.func16 (by kernel_rfl); ⟨_, c, h⟩
theorem ok23 : ∃ fn c, FuncOK Go.Proofs.Tryz.prog E 23 fn c a23 := let ⟨c, h⟩ := funcChk_sound Go.Proofs.Tryz.func23 (by kernel_rfl); ⟨_, c, h⟩
theorem ok26 : ∃ fn c, FuncOK Go.Proofs.Tryz.prog E 26 fn c a26 := let ⟨c, h⟩ := funcChk_sound Go.Proofs.Tryz.func26 (by kernel_rfl); ⟨_, c, h⟩
theorem ok28 : ∃ fn c, FuncOK Go.Proofs.Tryz.prog E 28 fn c a28 := let ⟨c, h⟩ := funcChk_sound Go.Proofs.Tryz.func28 (by kernel_rfl); ⟨_, c, h⟩
theorem ok51 : ∃ fn c, FuncOK Go.Proofs.Tryz.prog E 51 fn c a51 := let ⟨c, h⟩ := funcChk_sound Go.Proofs.Tryz.func51 (by kernel_rfl); ⟨_, c, h⟩
theorem ok52 : ∃ fn c, FuncOK Go.Proofs.Tryz.prog E 52 fn c a52 := let ⟨c, h⟩ := funcChk_sound Go.Proofs.Tryz.func52 (by kernel_rfl); ⟨_, c, h⟩
theorem ok53 : ∃ fn c, FuncOK Go.Proofs.Tryz.prog E 53 fn c a53 := let ⟨c, h⟩ := funcChk_sound Go.Proofs.Tryz.func53 (by kernel_rfl); ⟨_, c, h⟩
theorem ok60 : ∃ fn c, FuncOK Go.Proofs.Tryz.prog E 60 fn c a60 := let ⟨c, h⟩ := funcChk_sound Go.Proofs.Tryz.func60 (by kernel_rfl); ⟨_, c, h⟩
theorem ok61 : ∃ fn c, FuncOK Go.Proofs.Tryz.prog E 61 fn c a61 := let ⟨c, h⟩ := funcChk_sound Go.Proofs.Tryz.func61 (by kernel_rfl); ⟨_, c, h⟩
theorem ok62 : ∃ fn c, FuncOK Go.Proofs.Tryz.prog E 62 fn c a62 := let ⟨c, h⟩ := funcChk_sound Go.Proofs.Tryz.func62 (by kernel_rfl); ⟨_, c, h⟩
theorem ok63 : ∃ fn c, FuncOK Go.Proofs.Tryz.prog E 63 fn c a63 := let ⟨c, h⟩ := funcChk_sound Go.Proofs.Tryz.func63 (by kernel_rfl); ⟨_, c, h⟩
theorem ok64 : ∃ fn c, FuncOK Go.Proofs.Tryz.prog E 64 fn c a64 := let ⟨c, h⟩ := funcChk_sound Go.Proofs.Tryz.func64 (by kernel_rfl); ⟨_, c, h⟩
theorem ok65 : ∃ fn c, FuncOK Go.Proofs.Tryz.prog E 65 fn c a65 := let ⟨c, h⟩ := funcChk_sound Go.Proofs.Tryz.func65 (by kernel_rfl); ⟨_, c, h⟩
theorem ok66 : ∃ fn c, FuncOK Go.Proofs.Tryz.prog E 66 fn c a66 := let ⟨c, h⟩ := funcChk_sound Go.Proofs.Tryz.func66 (by kernel_rfl); ⟨_, c, h⟩
theorem ok67 : ∃ fn c, FuncOK Go.Proofs.Tryz.prog E 67 fn c a67 := let ⟨c, h⟩ := funcChk_sound Go.Proofs.Tryz.func67 (by kernel_rfl); ⟨_, c, h⟩
theorem ok68 : ∃ fn c, FuncOK Go.Proofs.Tryz.prog E 68 fn c a68 := let ⟨c, h⟩ := funcChk_sound Go.Proofs.Tryz.func68 (by kernel_rfl); ⟨_, c, h⟩
theorem ok69 : ∃ fn c, FuncOK Go.Proofs.Tryz.prog E 69 fn c a69 := let ⟨c, h⟩ := funcChk_sound Go.Proofs.Tryz.func69 (by kernel_rfl); ⟨_, c, h⟩
theorem ok70 : ∃ fn c, FuncOK Go.Proofs.Tryz.prog E 70 fn c a70 := let ⟨c, h⟩ := funcChk_sound Go.Proofs.Tryz.func70 (by kernel_rfl); ⟨_, c, h⟩
theorem ok71 : ∃ fn c, FuncOK Go.Proofs.Tryz.prog E 71 fn c a71 := let ⟨c, h⟩ := funcChk_sound Go.Proofs.Tryz.func71 (by kernel_rfl); ⟨_, c, h⟩
theorem ok72 : ∃ fn c, FuncOK Go.Proofs.Tryz.prog E 72 fn c a72 := let ⟨c, h⟩ := funcChk_sound Go.Proofs.Tryz.func72 (by kernel_rfl); ⟨_, c, h⟩
theorem ok73 : ∃ fn c, FuncOK Go.Proofs.Tryz.prog E 73 fn c a73 := let ⟨c, h⟩ := funcChk_sound Go.Proofs.Tryz.func73 (by kernel_rfl); ⟨_, c, h⟩
theorem ok101 : ∃ fn c, FuncOK Go.Proofs.Tryz.prog E 101 fn c a101 := let ⟨c, h⟩ := funcChk_sound Go.Proofs.Tryz.func101 (by kernel_rfl); ⟨_, c, h⟩
theorem ok104 : ∃ fn c, FuncOK Go.Proofs.Tryz.prog E 104 fn c a104 := let ⟨c, h⟩ := funcChk_sound Go.Proofs.Tryz.func104 (by kernel_rfl); ⟨_, c, h⟩
theorem ok105 : ∃ fn c, FuncOK Go.Proofs.Tryz.prog E 105 fn c a105 := let ⟨c, h⟩ := funcChk_sound Go.Proofs.Tryz.func105 (by kernel_rfl); ⟨_, c, h⟩
theorem ok107 : ∃ fn c, FuncOK Go.Proofs.Tryz.prog E 107 fn c a107 := let ⟨c, h⟩ := funcChk_sound Go.Proofs.Tryz.func107 (by kernel_rfl); ⟨_, c, h⟩
theorem ok108 : ∃ fn c, FuncOK Go.Proofs.Tryz.prog E 108 fn c a108 := let ⟨c, h⟩ := funcChk_sound Go.Proofs.Tryz.func108 (by kernel_rfl); ⟨_, c, h⟩
theorem ok109 : ∃ fn c, FuncOK Go.Proofs.Tryz.prog E 109 fn c a109 := let ⟨c, h⟩ := funcChk_sound Go.Proofs.Tryz.func109 (by kernel_rfl); ⟨_, c, h⟩
theorem ok110 : ∃ fn c, FuncOK Go.Proofs.Tryz.prog E 110 fn c a110 := let ⟨c, h⟩ := funcChk_sound Go.Proofs.Tryz.func110 (by kernel_rfl); ⟨_, c, h⟩
theorem ok112 : ∃ fn c, FuncOK Go.Proofs.Tryz.prog E 112 fn c a112 := let ⟨c, h⟩ := funcChk_sound Go.Proofs.Tryz.func112 (by kernel_rfl); ⟨_, c, h⟩
theorem ok113 : ∃ fn c, FuncOK Go.Proofs.Tryz.prog E 113 fn c a113 := let ⟨c, h⟩ := funcChk_sound Go.Proofs.Tryz.func113 (by kernel_rfl); ⟨_, c, h⟩
theorem ok114 : ∃ fn c, FuncOK Go.Proofs.Tryz.prog E 114 fn c a114 := let ⟨c, h⟩ := funcChk_sound Go.Proofs.Tryz.func114 (by kernel_rfl); ⟨_, c, h⟩
theorem ok115 : ∃ fn c, FuncOK Go.Proofs.Tryz.prog E 115 fn c a115 := let ⟨c, h⟩ := funcChk_sound Go.Proofs.Tryz.func115 (by kernel_rfl); ⟨_, c, h⟩
theorem ok116 : ∃ fn c, FuncOK Go.Proofs.Tryz.prog E 116 fn c a116 := let ⟨c, h⟩ := funcChk_sound Go.Proofs.Tryz.func116 (by kernel_rfl); ⟨_, c, h⟩
theorem ok117 : ∃ fn c, FuncOK Go.Proofs.Tryz.prog E 117 fn c a117 := let ⟨c, h⟩ := funcChk_sound Go.Proofs.Tryz.func117 (by kernel_rfl); ⟨_, c, h⟩
theorem ok118 : ∃ fn c, FuncOK Go.Proofs.Tryz.prog E 118 fn c a118 := let ⟨c, h⟩ := funcChk_sound Go.Proofs.Tryz.func118 (by kernel_rfl); ⟨_, c, h⟩
theorem ok119 : ∃ fn c, FuncOK Go.Proofs.Tryz.prog E 119 fn c a119 := let ⟨c, h⟩ := funcChk_sound Go.Proofs.Tryz.func119 (by kernel_rfl); ⟨_, c, h⟩
theorem ok120 : ∃ fn c, FuncOK Go.Proofs.Tryz.prog E 120 fn c a120 := let ⟨c, h⟩ := funcChk_sound Go.Proofs.Tryz.func120 (by kernel_rfl); ⟨_, c, h⟩
theorem ok121 : ∃ fn c, FuncOK Go.Proofs.Tryz.prog E 121 fn c a121 := let ⟨c, h⟩ := funcChk_sound Go.Proofs.Tryz.func121 (by kernel_rfl); ⟨_, c, h⟩
theorem ok122 : ∃ fn c, FuncOK Go.Proofs.Tryz.prog E 122 fn c a122 := let ⟨c, h⟩ := funcChk_sound Go.Proofs.Tryz.func122 (by kernel_rfl); ⟨_, c, h⟩
theorem ok123 : ∃ fn c, FuncOK Go.Proofs.Tryz.prog E 123 fn c a123 := let ⟨c, h⟩ := funcChk_sound Go.Proofs.Tryz.func123 (by kernel_rfl); ⟨_, c, h⟩
theorem ok124 : ∃ fn c, FuncOK Go.Proofs.Tryz.prog E 124 fn c a124 := let ⟨c, h⟩ := funcChk_sound Go.Proofs.Tryz.func124 (by kernel_rfl); ⟨_, c, h⟩
theorem ok151 : ∃ fn c, FuncOK Go.Proofs.Tryz.prog E 151 fn c a151 := let ⟨c, h⟩ := funcChk_sound Go.Proofs.Tryz.func151 (by kernel_rfl); ⟨_, c, h⟩
theorem ok154 : ∃ fn c, FuncOK Go.Proofs.Tryz.prog E 154 fn c a154 := let ⟨c, h⟩ := funcChk_sound Go.Proofs.Tryz.func154 (by kernel_rfl); ⟨_, c, h⟩
theorem ok158 : ∃ fn c, FuncOK Go.Proofs.Tryz.prog E 158 fn c a158 := let ⟨c, h⟩ := funcChk_sound Go.Proofs.Tryz.func158 (by kernel_rfl); ⟨_, c, h⟩
theorem ok159 : ∃ fn c, FuncOK Go.Proofs.Tryz.prog E 159 fn c a159 := let ⟨c, h⟩ := funcChk_sound Go.Proofs.Tryz.func159 (by kernel_rfl); ⟨_, c, h⟩
theorem ok160 : ∃ fn c, FuncOK Go.Proofs.Tryz.prog E 160 fn c a160 := let ⟨c, h⟩ := funcChk_sound Go.Proofs.Tryz.func160 (by kernel_rfl); ⟨_, c, h⟩
theorem ok164 : ∃ fn c, FuncOK Go.Proofs.Tryz.prog E 164 fn c a164 := let ⟨c, h⟩ := funcChk_sound Go.Proofs.Tryz.func164 (by kernel_rfl); ⟨_, c, h⟩
theorem ok165 : ∃ fn c, FuncOK Go.Proofs.Tryz.prog E 165 fn c a165 := let ⟨c, h⟩ := funcChk_sound Go.Proofs.Tryz.func165 (by kernel_rfl); ⟨_, c, h⟩
theorem ok166 : ∃ fn c, FuncOK Go.Proofs.Tryz.prog E 166 fn c a166 := let ⟨c, h⟩ := funcChk_sound Go.Proofs.Tryz.func166 (by kernel_rfl); ⟨_, c, h⟩
theorem ok169 : ∃ fn c, FuncOK Go.Proofs.Tryz.prog E 169 fn c a169 := let ⟨c, h⟩ := funcChk_sound Go.Proofs.Tryz.func169 (by kernel_rfl); ⟨_, c, h⟩
theorem ok170 : ∃ fn c, FuncOK Go.Proofs.Tryz.prog E 170 fn c a170 := let ⟨c, h⟩ := funcChk_sound Go.Proofs.Tryz.func170 (by kernel_rfl); ⟨_, c, h⟩
theorem ok171 : ∃ fn c, FuncOK Go.Proofs.Tryz.prog E 171 fn c a171 := let ⟨c, h⟩ := funcChk_sound Go.Proofs.Tryz.func171 (by kernel_rfl); ⟨_, c, h⟩
theorem ok172 : ∃ fn c, FuncOK Go.Proofs.Tryz.prog E 172 fn c a172 := let ⟨c, h⟩ := funcChk_sound Go.Proofs.Tryz.func172 (by kernel_rfl); ⟨_, c, h⟩
theorem ok173 : ∃ fn c, FuncOK Go.Proofs.Tryz.prog E 173 fn c a173 := let ⟨c, h⟩ := funcChk_sound Go.Proofs.Tryz.func173 (by kernel_rfl); ⟨_, c, h⟩
theorem ok174 : ∃ fn c, FuncOK Go.Proofs.Tryz.prog E 174 fn c a174 := let ⟨c, h⟩ := funcChk_sound Go.Proofs.Tryz.func174 (by kernel_rfl); ⟨_, c, h⟩
theorem ok175 : ∃ fn c, FuncOK Go.Proofs.Tryz.prog E 175 fn c a175 := let ⟨c, h⟩ := funcChk_sound Go.Proofs.Tryz.func175 (by kernel_rfl); ⟨_, c, h⟩
theorem ok176 : ∃ fn c, FuncOK Go.Proofs.Tryz.prog E 176 fn c a176 := let ⟨c, h⟩ := funcChk_sound Go.Proofs.Tryz.func176 (by kernel_rfl); ⟨_, c, h⟩
theorem ok177 : ∃ fn c, FuncOK Go.Proofs.Tryz.prog E 177 fn c a177 := let ⟨c, h⟩ := funcChk_sound Go.Proofs.Tryz.func177 (by kernel_rfl); ⟨_, c, h⟩
theorem ok178 : ∃ fn c, FuncOK Go.Proofs.Tryz.prog E 178 fn c a178 := let ⟨c, h⟩ := funcChk_sound Go.Proofs.Tryz.func178 (by kernel_rfl); ⟨_, c, h⟩
theorem ok179 : ∃ fn c, FuncOK Go.Proofs.Tryz.prog E 179 fn c a179 := let ⟨c, h⟩ := funcChk_sound Go.Proofs.Tryz.func179 (by kernel_rfl); ⟨_, c, h⟩
theorem ok180 : ∃ fn c, FuncOK Go.Proofs.Tryz.prog E 180 fn c a180 := let ⟨c, h⟩ := funcChk_sound Go.Proofs.Tryz.func180 (by kernel_rfl); ⟨_, c, h⟩
theorem ok181 : ∃ fn c, FuncOK Go.Proofs.Tryz.prog E 181 fn c a181 := let ⟨c, h⟩ := funcChk_sound Go.Proofs.Tryz.func181 (by kernel_rfl); ⟨_, c, h⟩
theorem ok182 : ∃ fn c, FuncOK Go.Proofs.Tryz.prog E 182 fn c a182 := let ⟨c, h⟩ := funcChk_sound Go.Proofs.Tryz.func182 (by kernel_rfl); ⟨_, c, h⟩
theorem ok183 : ∃ fn c, FuncOK Go.Proofs.Tryz.prog E 183 fn c a183 := let ⟨c, h⟩ := funcChk_sound Go.Proofs.Tryz.func183 (by kernel_rfl); ⟨_, c, h⟩
theorem ok184 : ∃ fn c, FuncOK Go.Proofs.Tryz.prog E 184 fn c a184 := let ⟨c, h⟩ := funcChk_sound Go.Proofs.Tryz.func184 (by kernel_rfl); ⟨_, c, h⟩
theorem ok209 : ∃ fn c, FuncOK Go.Proofs.Tryz.prog E 209 fn c a209 := let ⟨c, h⟩ := funcChk_sound Go.Proofs.Tryz.func209 (by kernel_rfl); ⟨_, c, h⟩
theorem ok210 : ∃ fn c, FuncOK Go.Proofs.Tryz.prog E 210 fn c a210 := let ⟨c, h⟩ := funcChk_sound Go.Proofs.Tryz.func210 (by kernel_rfl); ⟨_, c, h⟩
theorem ok220 : ∃ fn c, FuncOK Go.Proofs.Tryz.prog E 220 fn c a220 := let ⟨c, h⟩ := funcChk_sound Go.Proofs.Tryz.func220 (by kernel_rfl); ⟨_, c, h⟩
theorem ok221 : ∃ fn c, FuncOK Go.Proofs.Tryz.prog E 221 fn c a221 := let ⟨c, h⟩ := funcChk_sound Go.Proofs.Tryz.func221 (by kernel_rfl); ⟨_, c, h⟩
theorem ok223 : ∃ fn c, FuncOK Go.Proofs.Tryz.prog E 223 fn c a223 := let ⟨c, h⟩ := funcChk_sound Go.Proofs.Tryz.func223 (by kernel_rfl); ⟨_, c, h⟩
theorem ok224 : ∃ fn c, FuncOK Go.Proofs.Tryz.prog E 224 fn c a224 := let ⟨c, h⟩ := funcChk_sound Go.Proofs.Tryz.func224 (by kernel_rfl); ⟨_, c, h⟩
theorem ok225 : ∃ fn c, FuncOK Go.Proofs.Tryz.prog E 225 fn c a225 := let ⟨c, h⟩ := funcChk_sound Go.Proofs.Tryz.func225 (by kernel_rfl); ⟨_, c, h⟩
theorem ok226 : ∃ fn c, FuncOK Go.Proofs.Tryz.prog E 226 fn c a226 := let ⟨c, h⟩ := funcChk_sound Go.Proofs.Tryz.func226 (by kernel_rfl); ⟨_, c, h⟩
theorem ok227 : ∃ fn c, FuncOK Go.Proofs.Tryz.prog E 227 fn c a227 := let ⟨c, h⟩ := funcChk_sound Go.Proofs.Tryz.func227 (by kernel_rfl); ⟨_, c, h⟩
theorem ok228 : ∃ fn c, FuncOK Go.Proofs.Tryz.prog E 228 fn c a228 := let ⟨c, h⟩ := funcChk_sound Go.Proofs.Tryz.func228 (by kernel_rfl); ⟨_, c, h⟩
theorem ok229 : ∃ fn c, FuncOK Go.Proofs.Tryz.prog E 229 fn c a229 := let ⟨c, h⟩ := funcChk_sound Go.Proofs.Tryz.func229 (by kernel_rfl); ⟨_, c, h⟩
theorem ok230 : ∃ fn c, FuncOK Go.Proofs.Tryz.prog E 230 fn c a230 := let ⟨c, h⟩ := funcChk_sound Go.Proofs.Tryz.func230 (by kernel_rfl); ⟨_, c, h⟩
theorem ok231 : ∃ fn c, FuncOK Go.Proofs.Tryz.prog E 231 fn c a231 := let ⟨c, h⟩ := funcChk_sound Go.Proofs.Tryz.func231 (by kernel_rfl); ⟨_, c, h⟩
theorem ok232 : ∃ fn c, FuncOK Go.Proofs.Tryz.prog E 232 fn c a232 := let ⟨c, h⟩ := funcChk_sound Go.Proofs.Tryz.func232 (by kernel_rfl); ⟨_, c, h⟩
theorem ok233 : ∃ fn c, FuncOK Go.Proofs.Tryz.prog E 233 fn c a233 := let ⟨c, h⟩ := funcChk_sound Go.Proofs.Tryz.func233 (by kernel_rfl); ⟨_, c, h⟩
theorem ok234 : ∃ fn c, FuncOK Go.Proofs.Tryz.prog E 234 fn c a234 := let ⟨c, h⟩ := funcChk_sound Go.Proofs.Tryz.func234 (by kernel_rfl); ⟨_, c, h⟩
theorem ok236 : ∃ fn c, FuncOK Go.Proofs.Tryz.prog E 236 fn c a236 := let ⟨c, h⟩ := funcChk_sound Go.Proofs.Tryz.func236 (by kernel_rfl); ⟨_, c, h⟩
theorem ok237 : ∃ fn c, FuncOK Go.Proofs.Tryz.prog E 237 fn c a237 := let ⟨c, h⟩ := funcChk_sound Go.Proofs.Tryz.func237 (by kernel_rfl); ⟨_, c, h⟩
theorem ok238 : ∃ fn c, FuncOK Go.Proofs.Tryz.prog E 238 fn c a238 := let ⟨c, h⟩ := funcChk_sound Go.Proofs.Tryz.func238 (by kernel_rfl); ⟨_, c, h⟩
theorem ok239 : ∃ fn c, FuncOK Go.Proofs.Tryz.prog E 239 fn c a239 := let ⟨c, h⟩ := funcChk_sound Go.Proofs.Tryz.func239 (by kernel_rfl); ⟨_, c, h⟩
theorem ok240 : ∃ fn c, FuncOK Go.Proofs.Tryz.prog E 240 fn c a240 := let ⟨c, h⟩ := funcChk_sound Go.Proofs.Tryz.func240 (by kernel_rfl); ⟨_, c, h⟩
theorem ok241 : ∃ fn c, FuncOK Go.Proofs.Tryz.prog E 241 fn c a241 := let ⟨c, h⟩ := funcChk_sound Go.Proofs.Tryz.func241 (by kernel_rfl); ⟨_, c, h⟩
theorem ok247 : ∃ fn c, FuncOK Go.Proofs.Tryz.prog E 247 fn c a247 := let ⟨c, h⟩ := funcChk_sound Go.Proofs.Tryz.func247 (by kernel_rfl); ⟨_, c, h⟩
theorem ok248 : ∃ fn c, FuncOK Go.Proofs.Tryz.prog E 248 fn c a248 := let ⟨c, h⟩ := funcChk_sound Go.Proofs.Tryz.func248 (by kernel_rfl); ⟨_, c, h⟩
theorem ok249 : ∃ fn c, FuncOK Go.Proofs.Tryz.prog E 249 fn c a249 := let ⟨c, h⟩ := funcChk_sound Go.Proofs.Tryz.func249 (by kernel_rfl); ⟨_, c, h⟩
theorem ok250 : ∃ fn c, FuncOK Go.Proofs.Tryz.prog E 250 fn c a250 := let ⟨c, h⟩ := funcChk_sound Go.Proofs.Tryz.func250 (by kernel_rfl); ⟨_, c, h⟩
theorem ok251 : ∃ fn c, FuncOK Go.Proofs.Tryz.prog E 251 fn c a251 := let ⟨c, h⟩ := funcChk_sound Go.Proofs.Tryz.func251 (by kernel_rfl); ⟨_, c, h⟩
theorem ok252 : ∃ fn c, FuncOK Go.Proofs.Tryz.prog E 252 fn c a252 := let ⟨c, h⟩ := funcChk_sound Go.Proofs.Tryz.func252 (by kernel_rfl); ⟨_, c, h⟩
theorem ok253 : ∃ fn c, FuncOK Go.Proofs.Tryz.prog E 253 fn c a253 := let ⟨c, h⟩ := funcChk_sound Go.Proofs.Tryz.func253 (by kernel_rfl); ⟨_, c, h⟩
theorem ok254 : ∃ fn c, FuncOK Go.Proofs.Tryz.prog E 254 fn c a254 := let ⟨c, h⟩ := funcChk_sound Go.Proofs.Tryz.func254 (by kernel_rfl); ⟨_, c, h⟩
theorem ok255 : ∃ fn c, FuncOK Go.Proofs.Tryz.prog E 255 fn c a255 := let ⟨c, h⟩ := funcChk_sound Go.Proofs.Tryz.func255 (by kernel_rfl); ⟨_, c, h⟩
theorem ok256 : ∃ fn c, FuncOK Go.Proofs.Tryz.prog E 256 fn c a256 := let ⟨c, h⟩ := funcChk_sound Go.Proofs.Tryz.func256 (by kernel_rfl); ⟨_, c, h⟩
theorem ok257 : ∃ fn c, FuncOK Go.Proofs.Tryz.prog E 257 fn c a257 := let ⟨c, h⟩ := funcChk_sound Go.Proofs.Tryz.func257 (by kernel_rfl); ⟨_, c, h⟩
theorem ok258 : ∃ fn c, FuncOK Go.Proofs.Tryz.prog E 258 fn c a258 := let ⟨c, h⟩ := funcChk_sound Go.Proofs.Tryz.func258 (by kernel_rfl); ⟨_, c, h⟩
theorem ok259 : ∃ fn c, FuncOK Go.Proofs.Tryz.prog E 259 fn c a259 := let ⟨c, h⟩ := funcChk_sound Go.Proofs.Tryz.func259 (by kernel_rfl); ⟨_, c, h⟩
theorem ok260 : ∃ fn c, FuncOK Go.Proofs.Tryz.prog E 260 fn c a260 := let ⟨c, h⟩ := funcChk_sound Go.Proofs.Tryz.func260 (by kernel_rfl); ⟨_, c, h⟩
theorem ok261 : ∃ fn c, FuncOK Go.Proofs.Tryz.prog E 261 fn c a261 := let ⟨c, h⟩ := funcChk_sound Go.Proofs.Tryz.func261 (by kernel_rfl); ⟨_, c, h⟩
theorem ok262 : ∃ fn c, FuncOK Go.Proofs.Tryz.prog E 262 fn c a262 := let ⟨c, h⟩ := funcChk_sound Go.Proofs.Tryz.func262 (by kernel_rfl); ⟨_, c, h⟩
theorem ok263 : ∃ fn c, FuncOK Go.Proofs.Tryz.prog E 263 fn c a263 := let ⟨c, h⟩ := funcChk_sound Go.Proofs.Tryz.func263 (by kernel_rfl); ⟨_, c, h⟩
theorem ok279 : ∃ fn c, FuncOK Go.Proofs.Tryz.prog E 279 fn c a279 := let ⟨c, h⟩ := funcChk_sound Go.Proofs.Tryz.func279 (by kernel_rfl); ⟨_, c, h⟩
theorem ok280 : ∃ fn c, FuncOK Go.Proofs.Tryz.prog E 280 fn c a280 := let ⟨c, h⟩ := funcChk_sound Go.Proofs.Tryz.func280 (by kernel_rfl); ⟨_, c, h⟩
theorem ok282 : ∃ fn c, FuncOK Go.Proofs.Tryz.prog E 282 fn c a282 := let ⟨c, h⟩ := funcChk_sound Go.Proofs.Tryz.func282 (by kernel_rfl); ⟨_, c, h⟩
theorem ok283 : ∃ fn c, FuncOK Go.Proofs.Tryz.prog E 283 fn c a283 := let ⟨c, h⟩ := funcChk_sound Go.Proofs.Tryz.func283 (by kernel_rfl); ⟨_, c, h⟩
theorem ok286 : ∃ fn c, FuncOK Go.Proofs.Tryz.prog E 286 fn c a286 := let ⟨c, h⟩ := funcChk_sound Go.Proofs.Tryz.func286 (by kernel_rfl); ⟨_, c, h⟩
theorem ok290 : ∃ fn c, FuncOK Go.Proofs.Tryz.prog E 290 fn c a290 := let ⟨c, h⟩ := funcChk_sound Go.Proofs.Tryz.func290 (by kernel_rfl); ⟨_, c, h⟩
theorem ok291 : ∃ fn c, FuncOK Go.Proofs.Tryz.prog E 291 fn c a291 := let ⟨c, h⟩ := funcChk_sound Go.Proofs.Tryz.func291 (by kernel_rfl); ⟨_, c, h⟩
theorem ok292 : ∃ fn c, FuncOK Go.Proofs.Tryz.prog E 292 fn c a292 := let ⟨c, h⟩ := funcChk_sound Go.Proofs.Tryz.func292 (by kernel_rfl); ⟨_, c, h⟩
theorem ok295 : ∃ fn c, FuncOK Go.Proofs.Tryz.prog E 295 fn c a295 := let ⟨c, h⟩ := funcChk_sound Go.Proofs.Tryz.func295 (by kernel_rfl); ⟨_, c, h⟩
theorem ok296 : ∃ fn c, FuncOK Go.Proofs.Tryz.prog E 296 fn c a296 := let ⟨c, h⟩ := funcChk_sound Go.Proofs.Tryz.func296 (by kernel_rfl); ⟨_, c, h⟩
theorem ok302 : ∃ fn c, FuncOK Go.Proofs.Tryz.prog E 302 fn c a302 := let ⟨c, h⟩ := funcChk_sound Go.Proofs.Tryz.func302 (by kernel_rfl); ⟨_, c, h⟩
theorem ok303 : ∃ fn c, FuncOK Go.Proofs.Tryz.prog E 303 fn c a303 := let ⟨c, h⟩ := funcChk_sound Go.Proofs.Tryz.func303 (by kernel_rfl); ⟨_, c, h⟩
theorem ok304 : ∃ fn c, FuncOK Go.Proofs.Tryz.prog E 304 fn c a304 := let ⟨c, h⟩ := funcChk_sound Go.Proofs.Tryz.func304 (by kernel_rfl); ⟨_, c, h⟩
theorem ok305 : ∃ fn c, FuncOK Go.Proofs.Tryz.prog E 305 fn c a305 := let ⟨c, h⟩ := funcChk_sound Go.Proofs.Tryz.func305 (by kernel_rfl); ⟨_, c, h⟩
theorem ok306 : ∃ fn c, FuncOK Go.Proofs.Tryz.prog E 306 fn c a306 := let ⟨c, h⟩ := funcChk_sound Go.Proofs.Tryz.func306 (by kernel_rfl); ⟨_, c, h⟩
theorem ok307 : ∃ fn c, FuncOK Go.Proofs.Tryz.prog E 307 fn c a307 := let ⟨c, h⟩ := funcChk_sound Go.Proofs.Tryz.func307 (by kernel_rfl); ⟨_, c, h⟩
theorem ok308 : ∃ fn c, FuncOK Go.Proofs.Tryz.prog E 308 fn c a308 := let ⟨c, h⟩ := funcChk_sound Go.Proofs.Tryz.func308 (by kernel_rfl); ⟨_, c, h⟩
theorem ok309 : ∃ fn c, FuncOK Go.Proofs.Tryz.prog E 309 fn c a309 := let ⟨c, h⟩ := funcChk_sound Go.Proofs.Tryz.func309 (by kernel_rfl); ⟨_, c, h⟩
theorem ok310 : ∃ fn c, FuncOK Go.Proofs.Tryz.prog E 310 fn c a310 := let ⟨c, h⟩ := funcChk_sound Go.Proofs.Tryz.func310 (by kernel_rfl); ⟨_, c, h⟩
theorem ok311 : ∃ fn c, FuncOK Go.Proofs.Tryz.prog E 311 fn c a311 := let ⟨c, h⟩ := funcChk_sound Go.Proofs.Tryz.func311 (by kernel_rfl); ⟨_, c, h⟩
theorem ok324 : ∃ fn c, FuncOK Go.Proofs.Tryz.prog E 324 fn c a324 := let ⟨c, h⟩ := funcChk_sound Go.Proofs.Tryz.func324 (by kernel_rfl); ⟨_, c, h⟩
theorem ok325 : ∃ fn c, FuncOK Go.Proofs.Tryz.prog E 325 fn c a325 := let ⟨c, h⟩ := funcChk_sound Go.Proofs.Tryz.func325 (by kernel_rfl); ⟨_, c, h⟩
theorem ok326 : ∃ fn c, FuncOK Go.Proofs.Tryz.prog E 326 fn c a326 := let ⟨c, h⟩ := funcChk_sound Go.Proofs.Tryz.func326 (by kernel_rfl); ⟨_, c, h⟩
theorem ok327 : ∃ fn c, FuncOK Go.Proofs.Tryz.prog E 327 fn c a327 := let ⟨c, h⟩ := funcChk_sound Go.Proofs.Tryz.func327 (by kernel_rfl); ⟨_, c, h⟩
theorem ok328 : ∃ fn c, FuncOK Go.Proofs.Tryz.prog E 328 fn c a328 := let ⟨c, h⟩ := funcChk_sound Go.Proofs.Tryz.func328 (by kernel_rfl); ⟨_, c, h⟩
theorem ok329 : ∃ fn c, FuncOK Go.Proofs.Tryz.prog E 329 fn c a329 := let ⟨c, h⟩ := funcChk_sound Go.Proofs.Tryz.func329 (by kernel_rfl); ⟨_, c, h⟩
theorem ok330 : ∃ fn c, FuncOK Go.Proofs.Tryz.prog E 330 fn c a330 := let ⟨c, h⟩ := funcChk_sound Go.Proofs.Tryz.func330 (by kernel_rfl); ⟨_, c, h⟩
theorem ok363 : ∃ fn c, FuncOK Go.Proofs.Tryz.prog E 363 fn c a363 := let ⟨c, h⟩ := funcChk_sound Go.Proofs.Tryz.func363 (by kernel_rfl); ⟨_, c, h⟩
theorem ok364 : ∃ fn c, FuncOK Go.Proofs.Tryz.prog E 364 fn c a364 := let ⟨c, h⟩ := funcChk_sound Go.Proofs.Tryz.func364 (by kernel_rfl); ⟨_, c, h⟩
theorem ok405 : ∃ fn c, FuncOK Go.Proofs.Tryz.prog E 405 fn c a405 := let ⟨c, h⟩ := funcChk_sound Go.Proofs.Tryz.func405 (by kernel_rfl); ⟨_, c, h⟩
theorem ok406 : ∃ fn c, FuncOK Go.Proofs.Tryz.prog E 406 fn c a406 := let ⟨c, h⟩ := funcChk_sound Go.Proofs.Tryz.func406 (by kernel_rfl); ⟨_, c, h⟩
theorem ok407 : ∃ fn c, FuncOK Go.Proofs.Tryz.prog E 407 fn c a407 := let ⟨c, h⟩ := funcChk_sound Go.Proofs.Tryz.func407 (by kernel_rfl); ⟨_, c, h⟩
theorem ok408 : ∃ fn c, FuncOK Go.Proofs.Tryz.prog E 408 fn c a408 := let ⟨c, h⟩ := funcChk_sound Go.Proofs.Tryz.func408 (by kernel_rfl); ⟨_, c, h⟩
theorem ok409 : ∃ fn c, FuncOK Go.Proofs.Tryz.prog E 409 fn c a409 := let ⟨c, h⟩ := funcChk_sound Go.Proofs.Tryz.func409 (by kernel_rfl); ⟨_, c, h⟩
theorem ok410 : ∃ fn c, FuncOK Go.Proofs.Tryz.prog E 410 fn c a410 := let ⟨c, h⟩ := funcChk_sound Go.Proofs.Tryz.func410 (by kernel_rfl); ⟨_, c, h⟩
theorem ok411 : ∃ fn c, FuncOK Go.Proofs.Tryz.prog E 411 fn c a411 := let ⟨c, h⟩ := funcChk_sound Go.Proofs.Tryz.func411 (by kernel_rfl); ⟨_, c, h⟩
theorem ok412 : ∃ fn c, FuncOK Go.Proofs.Tryz.prog E 412 fn c a412 := let ⟨c, h⟩ := funcChk_sound Go.Proofs.Tryz.func412 (by kernel_rfl); ⟨_, c, h⟩
theorem ok413 : ∃ fn c, FuncOK Go.Proofs.Tryz.prog E 413 fn c a413 := let ⟨c, h⟩ := funcChk_sound Go.Proofs.Tryz.func413 (by kernel_rfl); ⟨_, c, h⟩
theorem ok440 : ∃ fn c, FuncOK Go.Proofs.Tryz.prog E 440 fn c a440 := let ⟨c, h⟩ := funcChk_sound Go.Proofs.Tryz.func440 (by kernel_rfl); ⟨_, c, h⟩
theorem ok441 : ∃ fn c, FuncOK Go.Proofs.Tryz.prog E 441 fn c a441 := let ⟨c, h⟩ := funcChk_sound Go.Proofs.Tryz.func441 (by kernel_rfl); ⟨_, c, h⟩
theorem ok442 : ∃ fn c, FuncOK Go.Proofs.Tryz.prog E 442 fn c a442 := let ⟨c, h⟩ := funcChk_sound Go.Proofs.Tryz.func442 (by kernel_rfl); ⟨_, c, h⟩
theorem ok444 : ∃ fn c, FuncOK Go.Proofs.Tryz.prog E 444 fn c a444 := let ⟨c, h⟩ := funcChk_sound Go.Proofs.Tryz.func444 (by kernel_rfl); ⟨_, c, h⟩
theorem okC : TT.All (fun f af => ∃ fn c, FuncOK Go.Proofs.Tryz.prog E f fn c af) ct := ⟨ok223, ⟨ok114, ⟨ok64, ⟨ok23, ⟨ok12, ⟨ok10, ⟨ok9, ⟨ok3, trivial, trivial⟩, trivial⟩, ⟨ok11, trivial, trivial⟩⟩, ⟨ok15, ⟨ok14, ⟨ok13, trivial, trivial⟩, trivial⟩, ⟨ok16, trivial, trivial⟩⟩⟩, ⟨ok53, ⟨ok51, ⟨ok28, ⟨ok26, trivial, trivial⟩, trivial⟩, ⟨ok52, trivial, trivial⟩⟩, ⟨ok62, ⟨ok61, ⟨ok60, trivial, trivial⟩, trivial⟩, ⟨ok63, trivial, trivial⟩⟩⟩⟩, ⟨ok101, ⟨ok69, ⟨ok67, ⟨ok66, ⟨ok65, trivial, trivial⟩, trivial⟩, ⟨ok68, trivial, trivial⟩⟩, ⟨ok72, ⟨ok71, ⟨ok70, trivial, trivial⟩, trivial⟩, ⟨ok73, trivial, trivial⟩⟩⟩, ⟨ok109, ⟨ok107, ⟨ok105, ⟨ok104, trivial, trivial⟩, trivial⟩, ⟨ok108, trivial, trivial⟩⟩, ⟨ok112, ⟨ok110, trivial, trivial⟩, ⟨ok113, trivial, trivial⟩⟩⟩⟩⟩, ⟨ok170, ⟨ok124, ⟨ok119, ⟨ok117, ⟨ok116, ⟨ok115, trivial, trivial⟩, trivial⟩, ⟨ok118, trivial, trivial⟩⟩, ⟨ok122, ⟨ok121, ⟨ok120, trivial, trivial⟩, trivial⟩, ⟨ok123, trivial, trivial⟩⟩⟩, ⟨ok160, ⟨ok158, ⟨ok154, ⟨ok151, trivial, trivial⟩, trivial⟩, ⟨ok159, trivial, trivial⟩⟩, ⟨ok166, ⟨ok165, ⟨ok164, trivial, trivial⟩, trivial⟩, ⟨ok169, trivial, trivial⟩⟩⟩⟩, ⟨ok180, ⟨ok175, ⟨ok173, ⟨ok172, ⟨ok171, trivial, trivial⟩, trivial⟩, ⟨ok174, trivial, trivial⟩⟩, ⟨ok178, ⟨ok177, ⟨ok176, trivial, trivial⟩, trivial⟩, ⟨ok179, trivial, trivial⟩⟩⟩, ⟨ok209, ⟨ok183, ⟨ok182, ⟨ok181, trivial, trivial⟩, trivial⟩, ⟨ok184, trivial, trivial⟩⟩, ⟨ok220, ⟨ok210, trivial, trivial⟩, ⟨ok221, trivial, trivial⟩⟩⟩⟩⟩⟩, ⟨ok286, ⟨ok249, ⟨ok233, ⟨ok228, ⟨ok226, ⟨ok225, ⟨ok224, trivial, trivial⟩, trivial⟩, ⟨ok227, trivial, trivial⟩⟩, ⟨ok231, ⟨ok230, ⟨ok229, trivial, trivial⟩, trivial⟩, ⟨ok232, trivial, trivial⟩⟩⟩, ⟨ok239, ⟨ok237, ⟨ok236, ⟨ok234, trivial, trivial⟩, trivial⟩, ⟨ok238, trivial, trivial⟩⟩, ⟨ok247, ⟨ok241, ⟨ok240, trivial, trivial⟩, trivial⟩, ⟨ok248, trivial, trivial⟩⟩⟩⟩, ⟨ok259, ⟨ok254, ⟨ok252, ⟨ok251, ⟨ok250, trivial, trivial⟩, trivial⟩, ⟨ok253, trivial, trivial⟩⟩, ⟨ok257, ⟨ok256, ⟨ok255, trivial, trivial⟩, trivial⟩, ⟨ok258, trivial, trivial⟩⟩⟩, ⟨ok279, ⟨ok262, ⟨ok261, ⟨ok260, trivial, trivial⟩, trivial⟩, ⟨ok263, trivial, trivial⟩⟩, ⟨ok282, ⟨ok280, trivial, trivial⟩, ⟨ok283, trivial, trivial⟩⟩⟩⟩⟩, ⟨ok327, ⟨ok306, ⟨ok296, ⟨ok292, ⟨ok291, ⟨ok290, trivial, trivial⟩, trivial⟩, ⟨ok295, trivial, trivial⟩⟩, ⟨ok304, ⟨ok303, ⟨ok302, trivial, trivial⟩, trivial⟩, ⟨ok305, trivial, trivial⟩⟩⟩, ⟨ok311, ⟨ok309, ⟨ok308, ⟨ok307, trivial, trivial⟩, trivial⟩, ⟨ok310, trivial, trivial⟩⟩, ⟨ok325, ⟨ok324, trivial, trivial⟩, ⟨ok326, trivial, trivial⟩⟩⟩⟩, ⟨ok409, ⟨ok364, ⟨ok330, ⟨ok329, ⟨ok328, trivial, trivial⟩, trivial⟩, ⟨ok363, trivial, trivial⟩⟩, ⟨ok407, ⟨ok406, ⟨ok405, trivial, trivial⟩, trivial⟩, ⟨ok408, trivial, trivial⟩⟩⟩, ⟨ok440, ⟨ok412, ⟨ok411, ⟨ok410, trivial, trivial⟩, trivial⟩, ⟨ok413, trivial, trivial⟩⟩, ⟨ok442, ⟨ok441, trivial, trivial⟩, ⟨ok444, trivial, trivial⟩⟩⟩⟩⟩⟩⟩
theorem okZ : TT.allB (zroChk Go.Proofs.Tryz.prog) zt = true := by kernel_rfl
theorem okM : mt.all (methChk Go.Proofs.Tryz.prog fun f => (ct.find f).isSome || xs.any (fun x => Nat.beq x f)) = true := by kernel_rfl
theorem okQ : TT.allB (eqtChk Go.Proofs.Tryz.prog) qt = true := by kernel_rfl
theorem codesOK : CodesOK Go.Proofs.Tryz.prog E (fun f => ct.find f) := fun f af h => TT.all_of okC f af h
theorem okX : ∀ f ∈ xs, ∃ fn, Go.Proofs.Tryz.prog.funcs[f]? = some fn ∧ fn.name ≠ "runtime.NumGoroutine" ∧ fn.body.isSome = true := by
  intro f hf
  simp only [xs, List.mem_cons, List.not_mem_nil, or_false] at hf
  rcases hf with rfl
  · exact ⟨_, Go.Proofs.Tryz.func106, of_decide_eq_true (by kernel_rfl), by kernel_rfl⟩
theorem envOK : EnvOK Go.Proofs.Tryz.prog E := envOK_of okZ okM okQ okC okX
end Go.Sim.CN

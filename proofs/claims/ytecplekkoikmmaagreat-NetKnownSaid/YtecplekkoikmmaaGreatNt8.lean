/- Parts of a closed evaluation: the closed call itself. -/
import Derived.Test.YtecplekkoikmmaaGreatRows
import Derived.Test.YtecplekkoikmmaaGreatEnNS
import Derived.Test.YtecplekkoikmmaaGreatNt7
namespace Go.Proofs.YtecplekkoikmmaaGreat.netKnown
open Go.En
theorem runs : saysTrueS Tryz.prog [m14, m17, m18, m19, m20, m22, m23, m25, m26, m27, m28, m29, m30, m31, m32, m34, m35, m38, m39, m41, m42, m44, m45, m48, m49, m51, m52, m54, m55, m57, m58, m60, m61, m62, m63, m64, m65, m79, m80, m81, m82, m84, m85, m86, m87, m105, m106, m237, m238, m239, m240, m241] 600 3 = true := by kernel_rfl
set_option maxRecDepth 100000 in
theorem closed : ∃ H' nx', CallOk Tryz.prog 3 [] [] 0 (.bool true) H' nx' := closed_ofS special (memsR_cons ok14 (memsR_cons ok17 (memsR_cons ok18 (memsR_cons ok19 (memsR_cons ok20 (memsR_cons ok22 (memsR_cons ok23 (memsR_cons ok25 (memsR_cons ok26 (memsR_cons ok27 (memsR_cons ok28 (memsR_cons ok29 (memsR_cons ok30 (memsR_cons ok31 (memsR_cons ok32 (memsR_cons ok34 (memsR_cons ok35 (memsR_cons ok38 (memsR_cons ok39 (memsR_cons ok41 (memsR_cons ok42 (memsR_cons ok44 (memsR_cons ok45 (memsR_cons ok48 (memsR_cons ok49 (memsR_cons ok51 (memsR_cons ok52 (memsR_cons ok54 (memsR_cons ok55 (memsR_cons ok57 (memsR_cons ok58 (memsR_cons ok60 (memsR_cons ok61 (memsR_cons ok62 (memsR_cons ok63 (memsR_cons ok64 (memsR_cons ok65 (memsR_cons ok79 (memsR_cons ok80 (memsR_cons ok81 (memsR_cons ok82 (memsR_cons ok84 (memsR_cons ok85 (memsR_cons ok86 (memsR_cons ok87 (memsR_cons ok105 (memsR_cons ok106 (memsR_cons ok237 (memsR_cons ok238 (memsR_cons ok239 (memsR_cons ok240 (memsR_cons ok241 memsR_nil)))))))))))))))))))))))))))))))))))))))))))))))))))) runs

end Go.Proofs.YtecplekkoikmmaaGreat.netKnown

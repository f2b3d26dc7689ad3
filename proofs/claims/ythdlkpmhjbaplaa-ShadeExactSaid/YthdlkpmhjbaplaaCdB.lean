/- The small machine's code is Go's: the checks, printed by a program (Gen.lean). No statement of this seat is proved here. -/
import Derived.Test.YthdlkpmhjbaplaaCdA
import Derived.Test.YthdlkpmhjbaplaaDxAM
import Derived.Test.YthdlkpmhjbaplaaProg
import Derived.KernelRfl
set_option autoImplicit false
set_option maxRecDepth 100000
namespace Go.Proofs.Ythdlkpmhjbaplaa.Dx
open Go

theorem c5 : chkFd Try.prog ls5 Try.f5 f5 = true := by kernel_rfl
theorem c15 : chkFd Try.prog ls15 Try.f15 f15 = true := by kernel_rfl
theorem c23 : chkFd Try.prog ls23 Try.f23 f23 = true := by kernel_rfl
theorem c24 : chkFd Try.prog ls24 Try.f24 f24 = true := by kernel_rfl
theorem c21 : chkFd Try.prog ls21 Try.f21 f21 = true := by kernel_rfl
theorem c25 : chkFd Try.prog ls25 Try.f25 f25 = true := by kernel_rfl
theorem c17 : chkFd Try.prog ls17 Try.f17 f17 = true := by kernel_rfl
theorem c26 : chkFd Try.prog ls26 Try.f26 f26 = true := by kernel_rfl
theorem c22 : chkFd Try.prog ls22 Try.f22 f22 = true := by kernel_rfl
theorem c16 : chkFd Try.prog ls16 Try.f16 f16 = true := by kernel_rfl
theorem c27 : chkFd Try.prog ls27 Try.f27 f27 = true := by kernel_rfl
theorem c18 : chkFd Try.prog ls18 Try.f18 f18 = true := by kernel_rfl
theorem c28 : chkFd Try.prog ls28 Try.f28 f28 = true := by kernel_rfl
theorem c29 : chkFd Try.prog ls29 Try.f29 f29 = true := by kernel_rfl
theorem c19 : chkFd Try.prog ls19 Try.f19 f19 = true := by kernel_rfl
theorem c30 : chkFd Try.prog ls30 Try.f30 f30 = true := by kernel_rfl
theorem c31 : chkFd Try.prog ls31 Try.f31 f31 = true := by kernel_rfl
theorem c32 : chkFd Try.prog ls32 Try.f32 f32 = true := by kernel_rfl
theorem c33 : chkFd Try.prog ls33 Try.f33 f33 = true := by kernel_rfl
theorem c34 : chkFd Try.prog ls34 Try.f34 f34 = true := by kernel_rfl
theorem c35 : chkFd Try.prog ls35 Try.f35 f35 = true := by kernel_rfl
theorem c36 : chkFd Try.prog ls36 Try.f36 f36 = true := by kernel_rfl
theorem c49 : chkFd Try.prog ls49 Try.f49 f49 = true := by kernel_rfl
theorem c57 : chkFd Try.prog ls57 Try.f57 f57 = true := by kernel_rfl
theorem c52 : chkFd Try.prog ls52 Try.f52 f52 = true := by kernel_rfl
theorem c53 : chkFd Try.prog ls53 Try.f53 f53 = true := by kernel_rfl
theorem c58 : chkFd Try.prog ls58 Try.f58 f58 = true := by kernel_rfl
theorem c54 : chkFd Try.prog ls54 Try.f54 f54 = true := by kernel_rfl
theorem c55 : chkFd Try.prog ls55 Try.f55 f55 = true := by kernel_rfl
theorem c59 : chkFd Try.prog ls59 Try.f59 f59 = true := by kernel_rfl
theorem c61 : chkFd Try.prog ls61 Try.f61 f61 = true := by kernel_rfl
theorem c60 : chkFd Try.prog ls60 Try.f60 f60 = true := by kernel_rfl
theorem c62 : chkFd Try.prog ls62 Try.f62 f62 = true := by kernel_rfl
theorem c63 : chkFd Try.prog ls63 Try.f63 f63 = true := by kernel_rfl
theorem c64 : chkFd Try.prog ls64 Try.f64 f64 = true := by kernel_rfl
theorem c65 : chkFd Try.prog ls65 Try.f65 f65 = true := by kernel_rfl
theorem c50 : chkFd Try.prog ls50 Try.f50 f50 = true := by kernel_rfl
theorem c51 : chkFd Try.prog ls51 Try.f51 f51 = true := by kernel_rfl
theorem c66 : chkFd Try.prog ls66 Try.f66 f66 = true := by kernel_rfl
theorem c67 : chkFd Try.prog ls67 Try.f67 f67 = true := by kernel_rfl
theorem c56 : chkFd Try.prog ls56 Try.f56 f56 = true := by kernel_rfl
theorem c68 : chkFd Try.prog ls68 Try.f68 f68 = true := by kernel_rfl
theorem c48 : chkFd Try.prog ls48 Try.f48 f48 = true := by kernel_rfl
theorem c69 : chkFd Try.prog ls69 Try.f69 f69 = true := by kernel_rfl
theorem c70 : chkFd Try.prog ls70 Try.f70 f70 = true := by kernel_rfl
theorem c20 : chkFd Try.prog ls20 Try.f20 f20 = true := by kernel_rfl
theorem c37 : chkFd Try.prog ls37 Try.f37 f37 = true := by kernel_rfl
theorem c71 : chkFd Try.prog ls71 Try.f71 f71 = true := by kernel_rfl
theorem c72 : chkFd Try.prog ls72 Try.f72 f72 = true := by kernel_rfl
theorem c73 : chkFd Try.prog ls73 Try.f73 f73 = true := by kernel_rfl
theorem c38 : chkFd Try.prog ls38 Try.f38 f38 = true := by kernel_rfl
theorem c74 : chkFd Try.prog ls74 Try.f74 f74 = true := by kernel_rfl
theorem c40 : chkFd Try.prog ls40 Try.f40 f40 = true := by kernel_rfl
theorem c75 : chkFd Try.prog ls75 Try.f75 f75 = true := by kernel_rfl
theorem c76 : chkFd Try.prog ls76 Try.f76 f76 = true := by kernel_rfl
theorem c84 : chkFd Try.prog ls84 Try.f84 f84 = true := by kernel_rfl
theorem c87 : chkFd Try.prog ls87 Try.f87 f87 = true := by kernel_rfl
theorem c82 : chkFd Try.prog ls82 Try.f82 f82 = true := by kernel_rfl
theorem c85 : chkFd Try.prog ls85 Try.f85 f85 = true := by kernel_rfl
theorem c77 : chkFd Try.prog ls77 Try.f77 f77 = true := by kernel_rfl
theorem c86 : chkFd Try.prog ls86 Try.f86 f86 = true := by kernel_rfl
theorem c88 : chkFd Try.prog ls88 Try.f88 f88 = true := by kernel_rfl
theorem c89 : chkFd Try.prog ls89 Try.f89 f89 = true := by kernel_rfl
theorem c90 : chkFd Try.prog ls90 Try.f90 f90 = true := by kernel_rfl
theorem c83 : chkFd Try.prog ls83 Try.f83 f83 = true := by kernel_rfl
theorem c91 : chkFd Try.prog ls91 Try.f91 f91 = true := by kernel_rfl
theorem c93 : chkFd Try.prog ls93 Try.f93 f93 = true := by kernel_rfl
theorem c92 : chkFd Try.prog ls92 Try.f92 f92 = true := by kernel_rfl
theorem c94 : chkFd Try.prog ls94 Try.f94 f94 = true := by kernel_rfl
theorem c107 : chkFd Try.prog ls107 Try.f107 f107 = true := by kernel_rfl
theorem c106 : chkFd Try.prog ls106 Try.f106 f106 = true := by kernel_rfl
theorem c108 : chkFd Try.prog ls108 Try.f108 f108 = true := by kernel_rfl
theorem c95 : chkFd Try.prog ls95 Try.f95 f95 = true := by kernel_rfl
theorem c110 : chkFd Try.prog ls110 Try.f110 f110 = true := by kernel_rfl
theorem c109 : chkFd Try.prog ls109 Try.f109 f109 = true := by kernel_rfl
theorem fOk : FOk Try.prog FT := FOk.of (by
  exact ⟨trivial, ⟨trivial, ⟨trivial, ⟨trivial, ⟨fok rfl Try.func15 c15, ⟨fok rfl Try.func31 c31, ⟨fok rfl Try.func63 c63, trivial, trivial⟩, ⟨fok rfl Try.func95 c95, trivial, trivial⟩⟩, trivial⟩, ⟨fok rfl Try.func23 c23, ⟨trivial, ⟨fok rfl Try.func71 c71, trivial, trivial⟩, trivial⟩, ⟨fok rfl Try.func55 c55, ⟨fok rfl Try.func87 c87, trivial, trivial⟩, trivial⟩⟩⟩, ⟨trivial, ⟨fok rfl Try.func19 c19, ⟨fok rfl Try.func35 c35, ⟨fok rfl Try.func67 c67, trivial, trivial⟩, trivial⟩, ⟨fok rfl Try.func51 c51, ⟨fok rfl Try.func83 c83, trivial, trivial⟩, trivial⟩⟩, ⟨fok rfl Try.func27 c27, ⟨trivial, ⟨fok rfl Try.func75 c75, trivial, trivial⟩, ⟨fok rfl Try.func107 c107, trivial, trivial⟩⟩, ⟨fok rfl Try.func59 c59, ⟨fok rfl Try.func91 c91, trivial, trivial⟩, trivial⟩⟩⟩⟩, ⟨fok rfl Try.func5 c5, ⟨trivial, ⟨fok rfl Try.func17 c17, ⟨fok rfl Try.func33 c33, ⟨fok rfl Try.func65 c65, trivial, trivial⟩, trivial⟩, ⟨fok rfl Try.func49 c49, trivial, trivial⟩⟩, ⟨fok rfl Try.func25 c25, ⟨trivial, ⟨fok rfl Try.func73 c73, trivial, trivial⟩, trivial⟩, ⟨fok rfl Try.func57 c57, ⟨fok rfl Try.func89 c89, trivial, trivial⟩, trivial⟩⟩⟩, ⟨trivial, ⟨fok rfl Try.func21 c21, ⟨fok rfl Try.func37 c37, ⟨fok rfl Try.func69 c69, trivial, trivial⟩, trivial⟩, ⟨fok rfl Try.func53 c53, ⟨fok rfl Try.func85 c85, trivial, trivial⟩, trivial⟩⟩, ⟨fok rfl Try.func29 c29, ⟨trivial, ⟨fok rfl Try.func77 c77, trivial, trivial⟩, ⟨fok rfl Try.func109 c109, trivial, trivial⟩⟩, ⟨fok rfl Try.func61 c61, ⟨fok rfl Try.func93 c93, trivial, trivial⟩, trivial⟩⟩⟩⟩⟩, ⟨trivial, ⟨trivial, ⟨trivial, ⟨fok rfl Try.func16 c16, ⟨fok rfl Try.func32 c32, ⟨fok rfl Try.func64 c64, trivial, trivial⟩, trivial⟩, ⟨fok rfl Try.func48 c48, trivial, trivial⟩⟩, ⟨fok rfl Try.func24 c24, ⟨fok rfl Try.func40 c40, ⟨fok rfl Try.func72 c72, trivial, trivial⟩, trivial⟩, ⟨fok rfl Try.func56 c56, ⟨fok rfl Try.func88 c88, trivial, trivial⟩, trivial⟩⟩⟩, ⟨trivial, ⟨fok rfl Try.func20 c20, ⟨fok rfl Try.func36 c36, ⟨fok rfl Try.func68 c68, trivial, trivial⟩, trivial⟩, ⟨fok rfl Try.func52 c52, ⟨fok rfl Try.func84 c84, trivial, trivial⟩, trivial⟩⟩, ⟨fok rfl Try.func28 c28, ⟨trivial, ⟨fok rfl Try.func76 c76, trivial, trivial⟩, ⟨fok rfl Try.func108 c108, trivial, trivial⟩⟩, ⟨fok rfl Try.func60 c60, ⟨fok rfl Try.func92 c92, trivial, trivial⟩, trivial⟩⟩⟩⟩, ⟨trivial, ⟨trivial, ⟨fok rfl Try.func18 c18, ⟨fok rfl Try.func34 c34, ⟨fok rfl Try.func66 c66, trivial, trivial⟩, trivial⟩, ⟨fok rfl Try.func50 c50, ⟨fok rfl Try.func82 c82, trivial, trivial⟩, trivial⟩⟩, ⟨fok rfl Try.func26 c26, ⟨trivial, ⟨fok rfl Try.func74 c74, trivial, trivial⟩, ⟨fok rfl Try.func106 c106, trivial, trivial⟩⟩, ⟨fok rfl Try.func58 c58, ⟨fok rfl Try.func90 c90, trivial, trivial⟩, trivial⟩⟩⟩, ⟨trivial, ⟨fok rfl Try.func22 c22, ⟨fok rfl Try.func38 c38, ⟨fok rfl Try.func70 c70, trivial, trivial⟩, trivial⟩, ⟨fok rfl Try.func54 c54, ⟨fok rfl Try.func86 c86, trivial, trivial⟩, trivial⟩⟩, ⟨fok rfl Try.func30 c30, ⟨trivial, trivial, ⟨fok rfl Try.func110 c110, trivial, trivial⟩⟩, ⟨fok rfl Try.func62 c62, ⟨fok rfl Try.func94 c94, trivial, trivial⟩, trivial⟩⟩⟩⟩⟩⟩)
theorem mixed : Try.prog.follows .mixedOrders = true := by kernel_rfl

end Go.Proofs.Ythdlkpmhjbaplaa.Dx

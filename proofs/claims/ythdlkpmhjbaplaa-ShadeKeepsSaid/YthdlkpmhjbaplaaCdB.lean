/- The small machine's code is Go's: the checks, printed by a program (Gen.lean). No statement of this seat is proved here. -/
import Derived.Test.YthdlkpmhjbaplaaCdA
import Derived.Test.YthdlkpmhjbaplaaDxAM
import Derived.Test.YthdlkpmhjbaplaaProg
import Derived.KernelRfl
set_option autoImplicit false
set_option maxRecDepth 100000
namespace Go.Proofs.Ythdlkpmhjbaplaa.Dx
open Go

theorem c3 : chkFd Try.prog ls3 Try.f3 f3 = true := by kernel_rfl
theorem c4 : chkFd Try.prog ls4 Try.f4 f4 = true := by kernel_rfl
theorem c15 : chkFd Try.prog ls15 Try.f15 f15 = true := by kernel_rfl
theorem c16 : chkFd Try.prog ls16 Try.f16 f16 = true := by kernel_rfl
theorem c17 : chkFd Try.prog ls17 Try.f17 f17 = true := by kernel_rfl
theorem c18 : chkFd Try.prog ls18 Try.f18 f18 = true := by kernel_rfl
theorem c19 : chkFd Try.prog ls19 Try.f19 f19 = true := by kernel_rfl
theorem c20 : chkFd Try.prog ls20 Try.f20 f20 = true := by kernel_rfl
theorem c21 : chkFd Try.prog ls21 Try.f21 f21 = true := by kernel_rfl
theorem c22 : chkFd Try.prog ls22 Try.f22 f22 = true := by kernel_rfl
theorem c49 : chkFd Try.prog ls49 Try.f49 f49 = true := by kernel_rfl
theorem c28 : chkFd Try.prog ls28 Try.f28 f28 = true := by kernel_rfl
theorem c50 : chkFd Try.prog ls50 Try.f50 f50 = true := by kernel_rfl
theorem c51 : chkFd Try.prog ls51 Try.f51 f51 = true := by kernel_rfl
theorem c48 : chkFd Try.prog ls48 Try.f48 f48 = true := by kernel_rfl
theorem c25 : chkFd Try.prog ls25 Try.f25 f25 = true := by kernel_rfl
theorem c35 : chkFd Try.prog ls35 Try.f35 f35 = true := by kernel_rfl
theorem c24 : chkFd Try.prog ls24 Try.f24 f24 = true := by kernel_rfl
theorem c52 : chkFd Try.prog ls52 Try.f52 f52 = true := by kernel_rfl
theorem c53 : chkFd Try.prog ls53 Try.f53 f53 = true := by kernel_rfl
theorem c54 : chkFd Try.prog ls54 Try.f54 f54 = true := by kernel_rfl
theorem c55 : chkFd Try.prog ls55 Try.f55 f55 = true := by kernel_rfl
theorem c56 : chkFd Try.prog ls56 Try.f56 f56 = true := by kernel_rfl
theorem c69 : chkFd Try.prog ls69 Try.f69 f69 = true := by kernel_rfl
theorem c82 : chkFd Try.prog ls82 Try.f82 f82 = true := by kernel_rfl
theorem c83 : chkFd Try.prog ls83 Try.f83 f83 = true := by kernel_rfl
theorem c59 : chkFd Try.prog ls59 Try.f59 f59 = true := by kernel_rfl
theorem c61 : chkFd Try.prog ls61 Try.f61 f61 = true := by kernel_rfl
theorem c60 : chkFd Try.prog ls60 Try.f60 f60 = true := by kernel_rfl
theorem c62 : chkFd Try.prog ls62 Try.f62 f62 = true := by kernel_rfl
theorem c63 : chkFd Try.prog ls63 Try.f63 f63 = true := by kernel_rfl
theorem c64 : chkFd Try.prog ls64 Try.f64 f64 = true := by kernel_rfl
theorem c65 : chkFd Try.prog ls65 Try.f65 f65 = true := by kernel_rfl
theorem c58 : chkFd Try.prog ls58 Try.f58 f58 = true := by kernel_rfl
theorem c84 : chkFd Try.prog ls84 Try.f84 f84 = true := by kernel_rfl
theorem c85 : chkFd Try.prog ls85 Try.f85 f85 = true := by kernel_rfl
theorem c77 : chkFd Try.prog ls77 Try.f77 f77 = true := by kernel_rfl
theorem c86 : chkFd Try.prog ls86 Try.f86 f86 = true := by kernel_rfl
theorem c106 : chkFd Try.prog ls106 Try.f106 f106 = true := by kernel_rfl
theorem c66 : chkFd Try.prog ls66 Try.f66 f66 = true := by kernel_rfl
theorem c88 : chkFd Try.prog ls88 Try.f88 f88 = true := by kernel_rfl
theorem c89 : chkFd Try.prog ls89 Try.f89 f89 = true := by kernel_rfl
theorem c90 : chkFd Try.prog ls90 Try.f90 f90 = true := by kernel_rfl
theorem c87 : chkFd Try.prog ls87 Try.f87 f87 = true := by kernel_rfl
theorem c107 : chkFd Try.prog ls107 Try.f107 f107 = true := by kernel_rfl
theorem c108 : chkFd Try.prog ls108 Try.f108 f108 = true := by kernel_rfl
theorem c95 : chkFd Try.prog ls95 Try.f95 f95 = true := by kernel_rfl
theorem c110 : chkFd Try.prog ls110 Try.f110 f110 = true := by kernel_rfl
theorem c109 : chkFd Try.prog ls109 Try.f109 f109 = true := by kernel_rfl
theorem c91 : chkFd Try.prog ls91 Try.f91 f91 = true := by kernel_rfl
theorem fOk : FOk Try.prog FT := FOk.of (by
  exact ⟨trivial, ⟨trivial, ⟨fok rfl Try.func3 c3, ⟨trivial, ⟨fok rfl Try.func15 c15, ⟨trivial, ⟨fok rfl Try.func63 c63, trivial, trivial⟩, ⟨fok rfl Try.func95 c95, trivial, trivial⟩⟩, trivial⟩, ⟨trivial, trivial, ⟨fok rfl Try.func55 c55, ⟨fok rfl Try.func87 c87, trivial, trivial⟩, trivial⟩⟩⟩, ⟨trivial, ⟨fok rfl Try.func19 c19, ⟨fok rfl Try.func35 c35, trivial, trivial⟩, ⟨fok rfl Try.func51 c51, ⟨fok rfl Try.func83 c83, trivial, trivial⟩, trivial⟩⟩, ⟨trivial, ⟨trivial, trivial, ⟨fok rfl Try.func107 c107, trivial, trivial⟩⟩, ⟨fok rfl Try.func59 c59, ⟨fok rfl Try.func91 c91, trivial, trivial⟩, trivial⟩⟩⟩⟩, ⟨trivial, ⟨trivial, ⟨fok rfl Try.func17 c17, ⟨trivial, ⟨fok rfl Try.func65 c65, trivial, trivial⟩, trivial⟩, ⟨fok rfl Try.func49 c49, trivial, trivial⟩⟩, ⟨fok rfl Try.func25 c25, trivial, ⟨trivial, ⟨fok rfl Try.func89 c89, trivial, trivial⟩, trivial⟩⟩⟩, ⟨trivial, ⟨fok rfl Try.func21 c21, ⟨trivial, ⟨fok rfl Try.func69 c69, trivial, trivial⟩, trivial⟩, ⟨fok rfl Try.func53 c53, ⟨fok rfl Try.func85 c85, trivial, trivial⟩, trivial⟩⟩, ⟨trivial, ⟨trivial, ⟨fok rfl Try.func77 c77, trivial, trivial⟩, ⟨fok rfl Try.func109 c109, trivial, trivial⟩⟩, ⟨fok rfl Try.func61 c61, trivial, trivial⟩⟩⟩⟩⟩, ⟨trivial, ⟨fok rfl Try.func4 c4, ⟨trivial, ⟨fok rfl Try.func16 c16, ⟨trivial, ⟨fok rfl Try.func64 c64, trivial, trivial⟩, trivial⟩, ⟨fok rfl Try.func48 c48, trivial, trivial⟩⟩, ⟨fok rfl Try.func24 c24, trivial, ⟨fok rfl Try.func56 c56, ⟨fok rfl Try.func88 c88, trivial, trivial⟩, trivial⟩⟩⟩, ⟨trivial, ⟨fok rfl Try.func20 c20, trivial, ⟨fok rfl Try.func52 c52, ⟨fok rfl Try.func84 c84, trivial, trivial⟩, trivial⟩⟩, ⟨fok rfl Try.func28 c28, ⟨trivial, trivial, ⟨fok rfl Try.func108 c108, trivial, trivial⟩⟩, ⟨fok rfl Try.func60 c60, trivial, trivial⟩⟩⟩⟩, ⟨trivial, ⟨trivial, ⟨fok rfl Try.func18 c18, ⟨trivial, ⟨fok rfl Try.func66 c66, trivial, trivial⟩, trivial⟩, ⟨fok rfl Try.func50 c50, ⟨fok rfl Try.func82 c82, trivial, trivial⟩, trivial⟩⟩, ⟨trivial, ⟨trivial, trivial, ⟨fok rfl Try.func106 c106, trivial, trivial⟩⟩, ⟨fok rfl Try.func58 c58, ⟨fok rfl Try.func90 c90, trivial, trivial⟩, trivial⟩⟩⟩, ⟨trivial, ⟨fok rfl Try.func22 c22, trivial, ⟨fok rfl Try.func54 c54, ⟨fok rfl Try.func86 c86, trivial, trivial⟩, trivial⟩⟩, ⟨trivial, ⟨trivial, trivial, ⟨fok rfl Try.func110 c110, trivial, trivial⟩⟩, ⟨fok rfl Try.func62 c62, trivial, trivial⟩⟩⟩⟩⟩⟩)
theorem mixed : Try.prog.follows .mixedOrders = true := by kernel_rfl

end Go.Proofs.Ythdlkpmhjbaplaa.Dx

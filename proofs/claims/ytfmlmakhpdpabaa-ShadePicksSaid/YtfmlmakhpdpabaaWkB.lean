/- The small machine's code is Go's: the checks, printed by a program (Gen.lean). No statement of this seat is proved here. -/
import Derived.Test.YtfmlmakhpdpabaaWkA
import Derived.Test.YtfmlmakhpdpabaaDxAM
import Derived.Test.YtfmlmakhpdpabaaProg
import Derived.KernelRfl
set_option autoImplicit false
set_option maxRecDepth 100000
namespace Go.Proofs.Ytfmlmakhpdpabaa.Dx
open Go

theorem c9 : chkFd Try.prog ls9 Try.f9 f9 = true := by kernel_rfl
theorem c36 : chkFd Try.prog ls36 Try.f36 f36 = true := by kernel_rfl
theorem c19 : chkFd Try.prog ls19 Try.f19 f19 = true := by kernel_rfl
theorem c15 : chkFd Try.prog ls15 Try.f15 f15 = true := by kernel_rfl
theorem c8 : chkFd Try.prog ls8 Try.f8 f8 = true := by kernel_rfl
theorem c18 : chkFd Try.prog ls18 Try.f18 f18 = true := by kernel_rfl
theorem c12 : chkFd Try.prog ls12 Try.f12 f12 = true := by kernel_rfl
theorem c40 : chkFd Try.prog ls40 Try.f40 f40 = true := by kernel_rfl
theorem c41 : chkFd Try.prog ls41 Try.f41 f41 = true := by kernel_rfl
theorem c47 : chkFd Try.prog ls47 Try.f47 f47 = true := by kernel_rfl
theorem c49 : chkFd Try.prog ls49 Try.f49 f49 = true := by kernel_rfl
theorem c48 : chkFd Try.prog ls48 Try.f48 f48 = true := by kernel_rfl
theorem c50 : chkFd Try.prog ls50 Try.f50 f50 = true := by kernel_rfl
theorem c51 : chkFd Try.prog ls51 Try.f51 f51 = true := by kernel_rfl
theorem c52 : chkFd Try.prog ls52 Try.f52 f52 = true := by kernel_rfl
theorem c53 : chkFd Try.prog ls53 Try.f53 f53 = true := by kernel_rfl
theorem c42 : chkFd Try.prog ls42 Try.f42 f42 = true := by kernel_rfl
theorem c43 : chkFd Try.prog ls43 Try.f43 f43 = true := by kernel_rfl
theorem c46 : chkFd Try.prog ls46 Try.f46 f46 = true := by kernel_rfl
theorem c38 : chkFd Try.prog ls38 Try.f38 f38 = true := by kernel_rfl
theorem c39 : chkFd Try.prog ls39 Try.f39 f39 = true := by kernel_rfl
theorem c69 : chkFd Try.prog ls69 Try.f69 f69 = true := by kernel_rfl
theorem c73 : chkFd Try.prog ls73 Try.f73 f73 = true := by kernel_rfl
theorem c74 : chkFd Try.prog ls74 Try.f74 f74 = true := by kernel_rfl
theorem c75 : chkFd Try.prog ls75 Try.f75 f75 = true := by kernel_rfl
theorem c70 : chkFd Try.prog ls70 Try.f70 f70 = true := by kernel_rfl
theorem c65 : chkFd Try.prog ls65 Try.f65 f65 = true := by kernel_rfl
theorem c71 : chkFd Try.prog ls71 Try.f71 f71 = true := by kernel_rfl
theorem c72 : chkFd Try.prog ls72 Try.f72 f72 = true := by kernel_rfl
theorem c67 : chkFd Try.prog ls67 Try.f67 f67 = true := by kernel_rfl
theorem c68 : chkFd Try.prog ls68 Try.f68 f68 = true := by kernel_rfl
theorem c84 : chkFd Try.prog ls84 Try.f84 f84 = true := by kernel_rfl
theorem c85 : chkFd Try.prog ls85 Try.f85 f85 = true := by kernel_rfl
theorem c54 : chkFd Try.prog ls54 Try.f54 f54 = true := by kernel_rfl
theorem c80 : chkFd Try.prog ls80 Try.f80 f80 = true := by kernel_rfl
theorem c87 : chkFd Try.prog ls87 Try.f87 f87 = true := by kernel_rfl
theorem c86 : chkFd Try.prog ls86 Try.f86 f86 = true := by kernel_rfl
theorem c83 : chkFd Try.prog ls83 Try.f83 f83 = true := by kernel_rfl
theorem c76 : chkFd Try.prog ls76 Try.f76 f76 = true := by kernel_rfl
theorem fOk : FOk Try.prog FT := FOk.of (by
  exact ⟨trivial, ⟨trivial, ⟨trivial, ⟨trivial, ⟨fok rfl Try.func15 c15, trivial, ⟨fok rfl Try.func47 c47, trivial, trivial⟩⟩, ⟨trivial, ⟨fok rfl Try.func39 c39, ⟨fok rfl Try.func71 c71, trivial, trivial⟩, trivial⟩, ⟨trivial, ⟨fok rfl Try.func87 c87, trivial, trivial⟩, trivial⟩⟩⟩, ⟨trivial, ⟨fok rfl Try.func19 c19, ⟨trivial, ⟨fok rfl Try.func67 c67, trivial, trivial⟩, trivial⟩, ⟨fok rfl Try.func51 c51, ⟨fok rfl Try.func83 c83, trivial, trivial⟩, trivial⟩⟩, ⟨trivial, ⟨fok rfl Try.func43 c43, ⟨fok rfl Try.func75 c75, trivial, trivial⟩, trivial⟩, trivial⟩⟩⟩, ⟨trivial, ⟨fok rfl Try.func9 c9, ⟨trivial, ⟨trivial, ⟨fok rfl Try.func65 c65, trivial, trivial⟩, trivial⟩, ⟨fok rfl Try.func49 c49, trivial, trivial⟩⟩, ⟨trivial, ⟨fok rfl Try.func41 c41, ⟨fok rfl Try.func73 c73, trivial, trivial⟩, trivial⟩, trivial⟩⟩, ⟨trivial, ⟨trivial, ⟨trivial, ⟨fok rfl Try.func69 c69, trivial, trivial⟩, trivial⟩, ⟨fok rfl Try.func53 c53, ⟨fok rfl Try.func85 c85, trivial, trivial⟩, trivial⟩⟩, trivial⟩⟩⟩, ⟨trivial, ⟨trivial, ⟨fok rfl Try.func8 c8, ⟨trivial, trivial, ⟨fok rfl Try.func48 c48, ⟨fok rfl Try.func80 c80, trivial, trivial⟩, trivial⟩⟩, ⟨trivial, ⟨fok rfl Try.func40 c40, ⟨fok rfl Try.func72 c72, trivial, trivial⟩, trivial⟩, trivial⟩⟩, ⟨fok rfl Try.func12 c12, ⟨trivial, ⟨fok rfl Try.func36 c36, ⟨fok rfl Try.func68 c68, trivial, trivial⟩, trivial⟩, ⟨fok rfl Try.func52 c52, ⟨fok rfl Try.func84 c84, trivial, trivial⟩, trivial⟩⟩, ⟨trivial, ⟨trivial, ⟨fok rfl Try.func76 c76, trivial, trivial⟩, trivial⟩, trivial⟩⟩⟩, ⟨trivial, ⟨trivial, ⟨fok rfl Try.func18 c18, trivial, ⟨fok rfl Try.func50 c50, trivial, trivial⟩⟩, ⟨trivial, ⟨fok rfl Try.func42 c42, ⟨fok rfl Try.func74 c74, trivial, trivial⟩, trivial⟩, trivial⟩⟩, ⟨trivial, ⟨trivial, ⟨fok rfl Try.func38 c38, ⟨fok rfl Try.func70 c70, trivial, trivial⟩, trivial⟩, ⟨fok rfl Try.func54 c54, ⟨fok rfl Try.func86 c86, trivial, trivial⟩, trivial⟩⟩, ⟨trivial, ⟨fok rfl Try.func46 c46, trivial, trivial⟩, trivial⟩⟩⟩⟩⟩)
theorem mixed : Try.prog.follows .mixedOrders = true := by kernel_rfl

end Go.Proofs.Ytfmlmakhpdpabaa.Dx

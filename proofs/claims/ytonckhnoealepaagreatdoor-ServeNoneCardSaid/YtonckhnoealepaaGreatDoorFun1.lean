/- The abstract code is the program's, first part. -/
import Derived.Test.YtonckhnoealepaaGreatDoorProg
import Derived.Test.YtonckhnoealepaaGreatDoorTab2
import Derived.Test.YtonckhnoealepaaGreatDoorAm8
import Derived.KernelRfl
namespace Go.Proofs.YtonckhnoealepaaGreatDoor
open Go Go.AM
theorem k3 : FOk Tryz.prog pl 3 a3 := ⟨⟨_, Tryz.func3, by kernel_rfl, by kernel_rfl⟩⟩
theorem k4 : FOk Tryz.prog pl 4 a4 := ⟨⟨_, Tryz.func4, by kernel_rfl, by kernel_rfl⟩⟩
theorem k5 : FOk Tryz.prog pl 5 a5 := ⟨⟨_, Tryz.func5, by kernel_rfl, by kernel_rfl⟩⟩
theorem k6 : FOk Tryz.prog pl 6 a6 := ⟨⟨_, Tryz.func6, by kernel_rfl, by kernel_rfl⟩⟩
theorem k7 : FOk Tryz.prog pl 7 a7 := ⟨⟨_, Tryz.func7, by kernel_rfl, by kernel_rfl⟩⟩
theorem k9 : FOk Tryz.prog pl 9 a9 := ⟨⟨_, Tryz.func9, by kernel_rfl, by kernel_rfl⟩⟩
theorem k10 : FOk Tryz.prog pl 10 a10 := ⟨⟨_, Tryz.func10, by kernel_rfl, by kernel_rfl⟩⟩
theorem k12 : FOk Tryz.prog pl 12 a12 := ⟨⟨_, Tryz.func12, by kernel_rfl, by kernel_rfl⟩⟩
theorem k14 : FOk Tryz.prog pl 14 a14 := ⟨⟨_, Tryz.func14, by kernel_rfl, by kernel_rfl⟩⟩
theorem k15 : FOk Tryz.prog pl 15 a15 := ⟨⟨_, Tryz.func15, by kernel_rfl, by kernel_rfl⟩⟩
theorem k16 : FOk Tryz.prog pl 16 a16 := ⟨⟨_, Tryz.func16, by kernel_rfl, by kernel_rfl⟩⟩
theorem k22 : FOk Tryz.prog pl 22 a22 := ⟨⟨_, Tryz.func22, by kernel_rfl, by kernel_rfl⟩⟩
theorem k23 : FOk Tryz.prog pl 23 a23 := ⟨⟨_, Tryz.func23, by kernel_rfl, by kernel_rfl⟩⟩
theorem k24 : FOk Tryz.prog pl 24 a24 := ⟨⟨_, Tryz.func24, by kernel_rfl, by kernel_rfl⟩⟩
theorem k25 : FOk Tryz.prog pl 25 a25 := ⟨⟨_, Tryz.func25, by kernel_rfl, by kernel_rfl⟩⟩
theorem k26 : FOk Tryz.prog pl 26 a26 := ⟨⟨_, Tryz.func26, by kernel_rfl, by kernel_rfl⟩⟩
theorem k27 : FOk Tryz.prog pl 27 a27 := ⟨⟨_, Tryz.func27, by kernel_rfl, by kernel_rfl⟩⟩
theorem k28 : FOk Tryz.prog pl 28 a28 := ⟨⟨_, Tryz.func28, by kernel_rfl, by kernel_rfl⟩⟩
theorem k33 : FOk Tryz.prog pl 33 a33 := ⟨⟨_, Tryz.func33, by kernel_rfl, by kernel_rfl⟩⟩
theorem k34 : FOk Tryz.prog pl 34 a34 := ⟨⟨_, Tryz.func34, by kernel_rfl, by kernel_rfl⟩⟩
theorem k35 : FOk Tryz.prog pl 35 a35 := ⟨⟨_, Tryz.func35, by kernel_rfl, by kernel_rfl⟩⟩
theorem k36 : FOk Tryz.prog pl 36 a36 := ⟨⟨_, Tryz.func36, by kernel_rfl, by kernel_rfl⟩⟩
theorem k38 : FOk Tryz.prog pl 38 a38 := ⟨⟨_, Tryz.func38, by kernel_rfl, by kernel_rfl⟩⟩
theorem k39 : FOk Tryz.prog pl 39 a39 := ⟨⟨_, Tryz.func39, by kernel_rfl, by kernel_rfl⟩⟩
theorem k40 : FOk Tryz.prog pl 40 a40 := ⟨⟨_, Tryz.func40, by kernel_rfl, by kernel_rfl⟩⟩
theorem k41 : FOk Tryz.prog pl 41 a41 := ⟨⟨_, Tryz.func41, by kernel_rfl, by kernel_rfl⟩⟩
theorem k42 : FOk Tryz.prog pl 42 a42 := ⟨⟨_, Tryz.func42, by kernel_rfl, by kernel_rfl⟩⟩
theorem k47 : FOk Tryz.prog pl 47 a47 := ⟨⟨_, Tryz.func47, by kernel_rfl, by kernel_rfl⟩⟩
theorem k50 : FOk Tryz.prog pl 50 a50 := ⟨⟨_, Tryz.func50, by kernel_rfl, by kernel_rfl⟩⟩
theorem k53 : FOk Tryz.prog pl 53 a53 := ⟨⟨_, Tryz.func53, by kernel_rfl, by kernel_rfl⟩⟩
theorem k54 : FOk Tryz.prog pl 54 a54 := ⟨⟨_, Tryz.func54, by kernel_rfl, by kernel_rfl⟩⟩
theorem k55 : FOk Tryz.prog pl 55 a55 := ⟨⟨_, Tryz.func55, by kernel_rfl, by kernel_rfl⟩⟩
theorem k56 : FOk Tryz.prog pl 56 a56 := ⟨⟨_, Tryz.func56, by kernel_rfl, by kernel_rfl⟩⟩
theorem k57 : FOk Tryz.prog pl 57 a57 := ⟨⟨_, Tryz.func57, by kernel_rfl, by kernel_rfl⟩⟩
theorem k58 : FOk Tryz.prog pl 58 a58 := ⟨⟨_, Tryz.func58, by kernel_rfl, by kernel_rfl⟩⟩
theorem k59 : FOk Tryz.prog pl 59 a59 := ⟨⟨_, Tryz.func59, by kernel_rfl, by kernel_rfl⟩⟩
theorem k61 : FOk Tryz.prog pl 61 a61 := ⟨⟨_, Tryz.func61, by kernel_rfl, by kernel_rfl⟩⟩
theorem k62 : FOk Tryz.prog pl 62 a62 := ⟨⟨_, Tryz.func62, by kernel_rfl, by kernel_rfl⟩⟩
theorem k63 : FOk Tryz.prog pl 63 a63 := ⟨⟨_, Tryz.func63, by kernel_rfl, by kernel_rfl⟩⟩
theorem k64 : FOk Tryz.prog pl 64 a64 := ⟨⟨_, Tryz.func64, by kernel_rfl, by kernel_rfl⟩⟩
theorem k85 : FOk Tryz.prog pl 85 a85 := ⟨⟨_, Tryz.func85, by kernel_rfl, by kernel_rfl⟩⟩
theorem k86 : FOk Tryz.prog pl 86 a86 := ⟨⟨_, Tryz.func86, by kernel_rfl, by kernel_rfl⟩⟩
theorem k87 : FOk Tryz.prog pl 87 a87 := ⟨⟨_, Tryz.func87, by kernel_rfl, by kernel_rfl⟩⟩
theorem k88 : FOk Tryz.prog pl 88 a88 := ⟨⟨_, Tryz.func88, by kernel_rfl, by kernel_rfl⟩⟩
theorem k89 : FOk Tryz.prog pl 89 a89 := ⟨⟨_, Tryz.func89, by kernel_rfl, by kernel_rfl⟩⟩
theorem k90 : FOk Tryz.prog pl 90 a90 := ⟨⟨_, Tryz.func90, by kernel_rfl, by kernel_rfl⟩⟩
theorem k91 : FOk Tryz.prog pl 91 a91 := ⟨⟨_, Tryz.func91, by kernel_rfl, by kernel_rfl⟩⟩
theorem k92 : FOk Tryz.prog pl 92 a92 := ⟨⟨_, Tryz.func92, by kernel_rfl, by kernel_rfl⟩⟩
theorem k93 : FOk Tryz.prog pl 93 a93 := ⟨⟨_, Tryz.func93, by kernel_rfl, by kernel_rfl⟩⟩
theorem k94 : FOk Tryz.prog pl 94 a94 := ⟨⟨_, Tryz.func94, by kernel_rfl, by kernel_rfl⟩⟩
theorem k96 : FOk Tryz.prog pl 96 a96 := ⟨⟨_, Tryz.func96, by kernel_rfl, by kernel_rfl⟩⟩
theorem k97 : FOk Tryz.prog pl 97 a97 := ⟨⟨_, Tryz.func97, by kernel_rfl, by kernel_rfl⟩⟩
theorem k98 : FOk Tryz.prog pl 98 a98 := ⟨⟨_, Tryz.func98, by kernel_rfl, by kernel_rfl⟩⟩
theorem k104 : FOk Tryz.prog pl 104 a104 := ⟨⟨_, Tryz.func104, by kernel_rfl, by kernel_rfl⟩⟩
theorem k106 : FOk Tryz.prog pl 106 a106 := ⟨⟨_, Tryz.func106, by kernel_rfl, by kernel_rfl⟩⟩
theorem k108 : FOk Tryz.prog pl 108 a108 := ⟨⟨_, Tryz.func108, by kernel_rfl, by kernel_rfl⟩⟩
theorem k109 : FOk Tryz.prog pl 109 a109 := ⟨⟨_, Tryz.func109, by kernel_rfl, by kernel_rfl⟩⟩
theorem k110 : FOk Tryz.prog pl 110 a110 := ⟨⟨_, Tryz.func110, by kernel_rfl, by kernel_rfl⟩⟩
theorem k111 : FOk Tryz.prog pl 111 a111 := ⟨⟨_, Tryz.func111, by kernel_rfl, by kernel_rfl⟩⟩
theorem k112 : FOk Tryz.prog pl 112 a112 := ⟨⟨_, Tryz.func112, by kernel_rfl, by kernel_rfl⟩⟩
theorem k119 : FOk Tryz.prog pl 119 a119 := ⟨⟨_, Tryz.func119, by kernel_rfl, by kernel_rfl⟩⟩
theorem k121 : FOk Tryz.prog pl 121 a121 := ⟨⟨_, Tryz.func121, by kernel_rfl, by kernel_rfl⟩⟩
theorem k122 : FOk Tryz.prog pl 122 a122 := ⟨⟨_, Tryz.func122, by kernel_rfl, by kernel_rfl⟩⟩
theorem k123 : FOk Tryz.prog pl 123 a123 := ⟨⟨_, Tryz.func123, by kernel_rfl, by kernel_rfl⟩⟩
theorem k124 : FOk Tryz.prog pl 124 a124 := ⟨⟨_, Tryz.func124, by kernel_rfl, by kernel_rfl⟩⟩
theorem k125 : FOk Tryz.prog pl 125 a125 := ⟨⟨_, Tryz.func125, by kernel_rfl, by kernel_rfl⟩⟩
theorem k126 : FOk Tryz.prog pl 126 a126 := ⟨⟨_, Tryz.func126, by kernel_rfl, by kernel_rfl⟩⟩
theorem k127 : FOk Tryz.prog pl 127 a127 := ⟨⟨_, Tryz.func127, by kernel_rfl, by kernel_rfl⟩⟩
theorem k128 : FOk Tryz.prog pl 128 a128 := ⟨⟨_, Tryz.func128, by kernel_rfl, by kernel_rfl⟩⟩
theorem k129 : FOk Tryz.prog pl 129 a129 := ⟨⟨_, Tryz.func129, by kernel_rfl, by kernel_rfl⟩⟩
theorem k130 : FOk Tryz.prog pl 130 a130 := ⟨⟨_, Tryz.func130, by kernel_rfl, by kernel_rfl⟩⟩
theorem k132 : FOk Tryz.prog pl 132 a132 := ⟨⟨_, Tryz.func132, by kernel_rfl, by kernel_rfl⟩⟩

end Go.Proofs.YtonckhnoealepaaGreatDoor

/- The code of the functions that are walked, compiled: each is what the compiler gives for the program (kernel). -/
import Derived.Test.YtblopagmddgkjaaGreatC0
import Derived.Test.YtblopagmddgkjaaGreatAiLift
import Derived.Test.YtblopagmddgkjaaGreatProg
import Derived.KernelRfl
import Derived.Test.YtblopagmddgkjaaGreatCa
import Derived.Test.YtblopagmddgkjaaGreatCb
namespace Go.Ai
open Go.Proofs
set_option maxRecDepth 100000

def fnTab : Nat → Option CFunc
  | 3 => some c3
  | 10 => some c10
  | 11 => some c11
  | 12 => some c12
  | 13 => some c13
  | 14 => some c14
  | 15 => some c15
  | 16 => some c16
  | 17 => some c17
  | 18 => some c18
  | 19 => some c19
  | 20 => some c20
  | 29 => some c29
  | 30 => some c30
  | 31 => some c31
  | 33 => some c33
  | 35 => some c35
  | 36 => some c36
  | 37 => some c37
  | 38 => some c38
  | 39 => some c39
  | 40 => some c40
  | 41 => some c41
  | 42 => some c42
  | 43 => some c43
  | 44 => some c44
  | 45 => some c45
  | 46 => some c46
  | 47 => some c47
  | 54 => some c54
  | 55 => some c55
  | 56 => some c56
  | 57 => some c57
  | 59 => some c59
  | 60 => some c60
  | 61 => some c61
  | 62 => some c62
  | 63 => some c63
  | 64 => some c64
  | 65 => some c65
  | 66 => some c66
  | 67 => some c67
  | 68 => some c68
  | 69 => some c69
  | 70 => some c70
  | 71 => some c71
  | 72 => some c72
  | 73 => some c73
  | 74 => some c74
  | 75 => some c75
  | 76 => some c76
  | 77 => some c77
  | 78 => some c78
  | 79 => some c79
  | 80 => some c80
  | 81 => some c81
  | 82 => some c82
  | 83 => some c83
  | 85 => some c85
  | 86 => some c86
  | 87 => some c87
  | 88 => some c88
  | 90 => some c90
  | 91 => some c91
  | 92 => some c92
  | 93 => some c93
  | 94 => some c94
  | 95 => some c95
  | 96 => some c96
  | 97 => some c97
  | 98 => some c98
  | 99 => some c99
  | 100 => some c100
  | 101 => some c101
  | 102 => some c102
  | 103 => some c103
  | 104 => some c104
  | 105 => some c105
  | 106 => some c106
  | 107 => some c107
  | 108 => some c108
  | 109 => some c109
  | 110 => some c110
  | 111 => some c111
  | 112 => some c112
  | 113 => some c113
  | 114 => some c114
  | 116 => some c116
  | 118 => some c118
  | 119 => some c119
  | 120 => some c120
  | 121 => some c121
  | 122 => some c122
  | 123 => some c123
  | 124 => some c124
  | 125 => some c125
  | 126 => some c126
  | 127 => some c127
  | 128 => some c128
  | 129 => some c129
  | 130 => some c130
  | 131 => some c131
  | 132 => some c132
  | 133 => some c133
  | 134 => some c134
  | 135 => some c135
  | 136 => some c136
  | 137 => some c137
  | 138 => some c138
  | 139 => some c139
  | 140 => some c140
  | 141 => some c141
  | 142 => some c142
  | 144 => some c144
  | 145 => some c145
  | 146 => some c146
  | 147 => some c147
  | 148 => some c148
  | 149 => some c149
  | 150 => some c150
  | 151 => some c151
  | 152 => some c152
  | 153 => some c153
  | 154 => some c154
  | 155 => some c155
  | _ => none

@[simp] theorem fn3 : fnTab 3 = some c3 := (rfl)
@[simp] theorem fn10 : fnTab 10 = some c10 := (rfl)
@[simp] theorem fn11 : fnTab 11 = some c11 := (rfl)
@[simp] theorem fn12 : fnTab 12 = some c12 := (rfl)
@[simp] theorem fn13 : fnTab 13 = some c13 := (rfl)
@[simp] theorem fn14 : fnTab 14 = some c14 := (rfl)
@[simp] theorem fn15 : fnTab 15 = some c15 := (rfl)
@[simp] theorem fn16 : fnTab 16 = some c16 := (rfl)
@[simp] theorem fn17 : fnTab 17 = some c17 := (rfl)
@[simp] theorem fn18 : fnTab 18 = some c18 := (rfl)
@[simp] theorem fn19 : fnTab 19 = some c19 := (rfl)
@[simp] theorem fn20 : fnTab 20 = some c20 := (rfl)
@[simp] theorem fn29 : fnTab 29 = some c29 := (rfl)
@[simp] theorem fn30 : fnTab 30 = some c30 := (rfl)
@[simp] theorem fn31 : fnTab 31 = some c31 := (rfl)
@[simp] theorem fn33 : fnTab 33 = some c33 := (rfl)
@[simp] theorem fn35 : fnTab 35 = some c35 := (rfl)
@[simp] theorem fn36 : fnTab 36 = some c36 := (rfl)
@[simp] theorem fn37 : fnTab 37 = some c37 := (rfl)
@[simp] theorem fn38 : fnTab 38 = some c38 := (rfl)
@[simp] theorem fn39 : fnTab 39 = some c39 := (rfl)
@[simp] theorem fn40 : fnTab 40 = some c40 := (rfl)
@[simp] theorem fn41 : fnTab 41 = some c41 := (rfl)
@[simp] theorem fn42 : fnTab 42 = some c42 := (rfl)
@[simp] theorem fn43 : fnTab 43 = some c43 := (rfl)
@[simp] theorem fn44 : fnTab 44 = some c44 := (rfl)
@[simp] theorem fn45 : fnTab 45 = some c45 := (rfl)
@[simp] theorem fn46 : fnTab 46 = some c46 := (rfl)
@[simp] theorem fn47 : fnTab 47 = some c47 := (rfl)
@[simp] theorem fn54 : fnTab 54 = some c54 := (rfl)
@[simp] theorem fn55 : fnTab 55 = some c55 := (rfl)
@[simp] theorem fn56 : fnTab 56 = some c56 := (rfl)
@[simp] theorem fn57 : fnTab 57 = some c57 := (rfl)
@[simp] theorem fn59 : fnTab 59 = some c59 := (rfl)
@[simp] theorem fn60 : fnTab 60 = some c60 := (rfl)
@[simp] theorem fn61 : fnTab 61 = some c61 := (rfl)
@[simp] theorem fn62 : fnTab 62 = some c62 := (rfl)
@[simp] theorem fn63 : fnTab 63 = some c63 := (rfl)
@[simp] theorem fn64 : fnTab 64 = some c64 := (rfl)
@[simp] theorem fn65 : fnTab 65 = some c65 := (rfl)
@[simp] theorem fn66 : fnTab 66 = some c66 := (rfl)
@[simp] theorem fn67 : fnTab 67 = some c67 := (rfl)
@[simp] theorem fn68 : fnTab 68 = some c68 := (rfl)
@[simp] theorem fn69 : fnTab 69 = some c69 := (rfl)
@[simp] theorem fn70 : fnTab 70 = some c70 := (rfl)
@[simp] theorem fn71 : fnTab 71 = some c71 := (rfl)
@[simp] theorem fn72 : fnTab 72 = some c72 := (rfl)
@[simp] theorem fn73 : fnTab 73 = some c73 := (rfl)
@[simp] theorem fn74 : fnTab 74 = some c74 := (rfl)
@[simp] theorem fn79 : fnTab 79 = some c79 := (rfl)
@[simp] theorem fn80 : fnTab 80 = some c80 := (rfl)
@[simp] theorem fn81 : fnTab 81 = some c81 := (rfl)
@[simp] theorem fn82 : fnTab 82 = some c82 := (rfl)
@[simp] theorem fn83 : fnTab 83 = some c83 := (rfl)
@[simp] theorem fn85 : fnTab 85 = some c85 := (rfl)
@[simp] theorem fn86 : fnTab 86 = some c86 := (rfl)
@[simp] theorem fn87 : fnTab 87 = some c87 := (rfl)
@[simp] theorem fn88 : fnTab 88 = some c88 := (rfl)
@[simp] theorem fn90 : fnTab 90 = some c90 := (rfl)
@[simp] theorem fn91 : fnTab 91 = some c91 := (rfl)
@[simp] theorem fn92 : fnTab 92 = some c92 := (rfl)
@[simp] theorem fn93 : fnTab 93 = some c93 := (rfl)
@[simp] theorem fn94 : fnTab 94 = some c94 := (rfl)
@[simp] theorem fn95 : fnTab 95 = some c95 := (rfl)
@[simp] theorem fn96 : fnTab 96 = some c96 := (rfl)
@[simp] theorem fn97 : fnTab 97 = some c97 := (rfl)
@[simp] theorem fn98 : fnTab 98 = some c98 := (rfl)
@[simp] theorem fn99 : fnTab 99 = some c99 := (rfl)
@[simp] theorem fn100 : fnTab 100 = some c100 := (rfl)
@[simp] theorem fn101 : fnTab 101 = some c101 := (rfl)
@[simp] theorem fn102 : fnTab 102 = some c102 := (rfl)
@[simp] theorem fn103 : fnTab 103 = some c103 := (rfl)
@[simp] theorem fn104 : fnTab 104 = some c104 := (rfl)
@[simp] theorem fn105 : fnTab 105 = some c105 := (rfl)
@[simp] theorem fn106 : fnTab 106 = some c106 := (rfl)
@[simp] theorem fn107 : fnTab 107 = some c107 := (rfl)
@[simp] theorem fn108 : fnTab 108 = some c108 := (rfl)
@[simp] theorem fn109 : fnTab 109 = some c109 := (rfl)
@[simp] theorem fn110 : fnTab 110 = some c110 := (rfl)
@[simp] theorem fn111 : fnTab 111 = some c111 := (rfl)
@[simp] theorem fn112 : fnTab 112 = some c112 := (rfl)
@[simp] theorem fn113 : fnTab 113 = some c113 := (rfl)
@[simp] theorem fn114 : fnTab 114 = some c114 := (rfl)
@[simp] theorem fn116 : fnTab 116 = some c116 := (rfl)
@[simp] theorem fn118 : fnTab 118 = some c118 := (rfl)
@[simp] theorem fn119 : fnTab 119 = some c119 := (rfl)
@[simp] theorem fn120 : fnTab 120 = some c120 := (rfl)
@[simp] theorem fn121 : fnTab 121 = some c121 := (rfl)
@[simp] theorem fn122 : fnTab 122 = some c122 := (rfl)
@[simp] theorem fn123 : fnTab 123 = some c123 := (rfl)
@[simp] theorem fn124 : fnTab 124 = some c124 := (rfl)
@[simp] theorem fn125 : fnTab 125 = some c125 := (rfl)
@[simp] theorem fn126 : fnTab 126 = some c126 := (rfl)
@[simp] theorem fn127 : fnTab 127 = some c127 := (rfl)
@[simp] theorem fn128 : fnTab 128 = some c128 := (rfl)
@[simp] theorem fn129 : fnTab 129 = some c129 := (rfl)
@[simp] theorem fn130 : fnTab 130 = some c130 := (rfl)
@[simp] theorem fn131 : fnTab 131 = some c131 := (rfl)
@[simp] theorem fn132 : fnTab 132 = some c132 := (rfl)
@[simp] theorem fn133 : fnTab 133 = some c133 := (rfl)
@[simp] theorem fn134 : fnTab 134 = some c134 := (rfl)
@[simp] theorem fn135 : fnTab 135 = some c135 := (rfl)
@[simp] theorem fn136 : fnTab 136 = some c136 := (rfl)
@[simp] theorem fn137 : fnTab 137 = some c137 := (rfl)
@[simp] theorem fn138 : fnTab 138 = some c138 := (rfl)
@[simp] theorem fn139 : fnTab 139 = some c139 := (rfl)
@[simp] theorem fn140 : fnTab 140 = some c140 := (rfl)
@[simp] theorem fn141 : fnTab 141 = some c141 := (rfl)
@[simp] theorem fn142 : fnTab 142 = some c142 := (rfl)
@[simp] theorem fn144 : fnTab 144 = some c144 := (rfl)
@[simp] theorem fn145 : fnTab 145 = some c145 := (rfl)
@[simp] theorem fn146 : fnTab 146 = some c146 := (rfl)
@[simp] theorem fn147 : fnTab 147 = some c147 := (rfl)
@[simp] theorem fn148 : fnTab 148 = some c148 := (rfl)
@[simp] theorem fn149 : fnTab 149 = some c149 := (rfl)
@[simp] theorem fn150 : fnTab 150 = some c150 := (rfl)
@[simp] theorem fn151 : fnTab 151 = some c151 := (rfl)
@[simp] theorem fn152 : fnTab 152 = some c152 := (rfl)
@[simp] theorem fn153 : fnTab 153 = some c153 := (rfl)
@[simp] theorem fn154 : fnTab 154 = some c154 := (rfl)
@[simp] theorem fn155 : fnTab 155 = some c155 := (rfl)

theorem fn_ok : ∀ f cf, fnTab f = some cf → hasBody Tryz.prog f = true ∧ ∃ ow, compF Tryz.prog ow f = some cf := by
  intro f cf h
  unfold fnTab at h
  split at h
  · cases h; exact ⟨body3, _, comp3⟩
  · cases h; exact ⟨body10, _, comp10⟩
  · cases h; exact ⟨body11, _, comp11⟩
  · cases h; exact ⟨body12, _, comp12⟩
  · cases h; exact ⟨body13, _, comp13⟩
  · cases h; exact ⟨body14, _, comp14⟩
  · cases h; exact ⟨body15, _, comp15⟩
  · cases h; exact ⟨body16, _, comp16⟩
  · cases h; exact ⟨body17, _, comp17⟩
  · cases h; exact ⟨body18, _, comp18⟩
  · cases h; exact ⟨body19, _, comp19⟩
  · cases h; exact ⟨body20, _, comp20⟩
  · cases h; exact ⟨body29, _, comp29⟩
  · cases h; exact ⟨body30, _, comp30⟩
  · cases h; exact ⟨body31, _, comp31⟩
  · cases h; exact ⟨body33, _, comp33⟩
  · cases h; exact ⟨body35, _, comp35⟩
  · cases h; exact ⟨body36, _, comp36⟩
  · cases h; exact ⟨body37, _, comp37⟩
  · cases h; exact ⟨body38, _, comp38⟩
  · cases h; exact ⟨body39, _, comp39⟩
  · cases h; exact ⟨body40, _, comp40⟩
  · cases h; exact ⟨body41, _, comp41⟩
  · cases h; exact ⟨body42, _, comp42⟩
  · cases h; exact ⟨body43, _, comp43⟩
  · cases h; exact ⟨body44, _, comp44⟩
  · cases h; exact ⟨body45, _, comp45⟩
  · cases h; exact ⟨body46, _, comp46⟩
  · cases h; exact ⟨body47, _, comp47⟩
  · cases h; exact ⟨body54, _, comp54⟩
  · cases h; exact ⟨body55, _, comp55⟩
  · cases h; exact ⟨body56, _, comp56⟩
  · cases h; exact ⟨body57, _, comp57⟩
  · cases h; exact ⟨body59, _, comp59⟩
  · cases h; exact ⟨body60, _, comp60⟩
  · cases h; exact ⟨body61, _, comp61⟩
  · cases h; exact ⟨body62, _, comp62⟩
  · cases h; exact ⟨body63, _, comp63⟩
  · cases h; exact ⟨body64, _, comp64⟩
  · cases h; exact ⟨body65, _, comp65⟩
  · cases h; exact ⟨body66, _, comp66⟩
  · cases h; exact ⟨body67, _, comp67⟩
  · cases h; exact ⟨body68, _, comp68⟩
  · cases h; exact ⟨body69, _, comp69⟩
  · cases h; exact ⟨body70, _, comp70⟩
  · cases h; exact ⟨body71, _, comp71⟩
  · cases h; exact ⟨body72, _, comp72⟩
  · cases h; exact ⟨body73, _, comp73⟩
  · cases h; exact ⟨body74, _, comp74⟩
  · cases h; exact ⟨body75, _, comp75⟩
  · cases h; exact ⟨body76, _, comp76⟩
  · cases h; exact ⟨body77, _, comp77⟩
  · cases h; exact ⟨body78, _, comp78⟩
  · cases h; exact ⟨body79, _, comp79⟩
  · cases h; exact ⟨body80, _, comp80⟩
  · cases h; exact ⟨body81, _, comp81⟩
  · cases h; exact ⟨body82, _, comp82⟩
  · cases h; exact ⟨body83, _, comp83⟩
  · cases h; exact ⟨body85, _, comp85⟩
  · cases h; exact ⟨body86, _, comp86⟩
  · cases h; exact ⟨body87, _, comp87⟩
  · cases h; exact ⟨body88, _, comp88⟩
  · cases h; exact ⟨body90, _, comp90⟩
  · cases h; exact ⟨body91, _, comp91⟩
  · cases h; exact ⟨body92, _, comp92⟩
  · cases h; exact ⟨body93, _, comp93⟩
  · cases h; exact ⟨body94, _, comp94⟩
  · cases h; exact ⟨body95, _, comp95⟩
  · cases h; exact ⟨body96, _, comp96⟩
  · cases h; exact ⟨body97, _, comp97⟩
  · cases h; exact ⟨body98, _, comp98⟩
  · cases h; exact ⟨body99, _, comp99⟩
  · cases h; exact ⟨body100, _, comp100⟩
  · cases h; exact ⟨body101, _, comp101⟩
  · cases h; exact ⟨body102, _, comp102⟩
  · cases h; exact ⟨body103, _, comp103⟩
  · cases h; exact ⟨body104, _, comp104⟩
  · cases h; exact ⟨body105, _, comp105⟩
  · cases h; exact ⟨body106, _, comp106⟩
  · cases h; exact ⟨body107, _, comp107⟩
  · cases h; exact ⟨body108, _, comp108⟩
  · cases h; exact ⟨body109, _, comp109⟩
  · cases h; exact ⟨body110, _, comp110⟩
  · cases h; exact ⟨body111, _, comp111⟩
  · cases h; exact ⟨body112, _, comp112⟩
  · cases h; exact ⟨body113, _, comp113⟩
  · cases h; exact ⟨body114, _, comp114⟩
  · cases h; exact ⟨body116, _, comp116⟩
  · cases h; exact ⟨body118, _, comp118⟩
  · cases h; exact ⟨body119, _, comp119⟩
  · cases h; exact ⟨body120, _, comp120⟩
  · cases h; exact ⟨body121, _, comp121⟩
  · cases h; exact ⟨body122, _, comp122⟩
  · cases h; exact ⟨body123, _, comp123⟩
  · cases h; exact ⟨body124, _, comp124⟩
  · cases h; exact ⟨body125, _, comp125⟩
  · cases h; exact ⟨body126, _, comp126⟩
  · cases h; exact ⟨body127, _, comp127⟩
  · cases h; exact ⟨body128, _, comp128⟩
  · cases h; exact ⟨body129, _, comp129⟩
  · cases h; exact ⟨body130, _, comp130⟩
  · cases h; exact ⟨body131, _, comp131⟩
  · cases h; exact ⟨body132, _, comp132⟩
  · cases h; exact ⟨body133, _, comp133⟩
  · cases h; exact ⟨body134, _, comp134⟩
  · cases h; exact ⟨body135, _, comp135⟩
  · cases h; exact ⟨body136, _, comp136⟩
  · cases h; exact ⟨body137, _, comp137⟩
  · cases h; exact ⟨body138, _, comp138⟩
  · cases h; exact ⟨body139, _, comp139⟩
  · cases h; exact ⟨body140, _, comp140⟩
  · cases h; exact ⟨body141, _, comp141⟩
  · cases h; exact ⟨body142, _, comp142⟩
  · cases h; exact ⟨body144, _, comp144⟩
  · cases h; exact ⟨body145, _, comp145⟩
  · cases h; exact ⟨body146, _, comp146⟩
  · cases h; exact ⟨body147, _, comp147⟩
  · cases h; exact ⟨body148, _, comp148⟩
  · cases h; exact ⟨body149, _, comp149⟩
  · cases h; exact ⟨body150, _, comp150⟩
  · cases h; exact ⟨body151, _, comp151⟩
  · cases h; exact ⟨body152, _, comp152⟩
  · cases h; exact ⟨body153, _, comp153⟩
  · cases h; exact ⟨body154, _, comp154⟩
  · cases h; exact ⟨body155, _, comp155⟩
  · cases h

/-- slices.Insert, slices.Delete -/
def liftF : Nat → Bool
  | 75 => true
  | 76 => true
  | 77 => true
  | 78 => true
  | _ => false
def E : Env := ⟨fnTab, LiftRel E0 liftF⟩
theorem e3 : E.fn 3 = some c3 := (rfl)
theorem e10 : E.fn 10 = some c10 := (rfl)
theorem e11 : E.fn 11 = some c11 := (rfl)
theorem e12 : E.fn 12 = some c12 := (rfl)
theorem e13 : E.fn 13 = some c13 := (rfl)
theorem e14 : E.fn 14 = some c14 := (rfl)
theorem e15 : E.fn 15 = some c15 := (rfl)
theorem e16 : E.fn 16 = some c16 := (rfl)
theorem e17 : E.fn 17 = some c17 := (rfl)
theorem e18 : E.fn 18 = some c18 := (rfl)
theorem e19 : E.fn 19 = some c19 := (rfl)
theorem e20 : E.fn 20 = some c20 := (rfl)
theorem e29 : E.fn 29 = some c29 := (rfl)
theorem e30 : E.fn 30 = some c30 := (rfl)
theorem e31 : E.fn 31 = some c31 := (rfl)
theorem e33 : E.fn 33 = some c33 := (rfl)
theorem e35 : E.fn 35 = some c35 := (rfl)
theorem e36 : E.fn 36 = some c36 := (rfl)
theorem e37 : E.fn 37 = some c37 := (rfl)
theorem e38 : E.fn 38 = some c38 := (rfl)
theorem e39 : E.fn 39 = some c39 := (rfl)
theorem e40 : E.fn 40 = some c40 := (rfl)
theorem e41 : E.fn 41 = some c41 := (rfl)
theorem e42 : E.fn 42 = some c42 := (rfl)
theorem e43 : E.fn 43 = some c43 := (rfl)
theorem e44 : E.fn 44 = some c44 := (rfl)
theorem e45 : E.fn 45 = some c45 := (rfl)
theorem e46 : E.fn 46 = some c46 := (rfl)
theorem e47 : E.fn 47 = some c47 := (rfl)
theorem e54 : E.fn 54 = some c54 := (rfl)
theorem e55 : E.fn 55 = some c55 := (rfl)
theorem e56 : E.fn 56 = some c56 := (rfl)
theorem e57 : E.fn 57 = some c57 := (rfl)
theorem e59 : E.fn 59 = some c59 := (rfl)
theorem e60 : E.fn 60 = some c60 := (rfl)
theorem e61 : E.fn 61 = some c61 := (rfl)
theorem e62 : E.fn 62 = some c62 := (rfl)
theorem e63 : E.fn 63 = some c63 := (rfl)
theorem e64 : E.fn 64 = some c64 := (rfl)
theorem e65 : E.fn 65 = some c65 := (rfl)
theorem e66 : E.fn 66 = some c66 := (rfl)
theorem e67 : E.fn 67 = some c67 := (rfl)
theorem e68 : E.fn 68 = some c68 := (rfl)
theorem e69 : E.fn 69 = some c69 := (rfl)
theorem e70 : E.fn 70 = some c70 := (rfl)
theorem e71 : E.fn 71 = some c71 := (rfl)
theorem e72 : E.fn 72 = some c72 := (rfl)
theorem e73 : E.fn 73 = some c73 := (rfl)
theorem e75 : E.fn 75 = some c75 := (rfl)
theorem e76 : E.fn 76 = some c76 := (rfl)
theorem e77 : E.fn 77 = some c77 := (rfl)
theorem e78 : E.fn 78 = some c78 := (rfl)
theorem e74 : E.fn 74 = some c74 := (rfl)
theorem e79 : E.fn 79 = some c79 := (rfl)
theorem e80 : E.fn 80 = some c80 := (rfl)
theorem e81 : E.fn 81 = some c81 := (rfl)
theorem e82 : E.fn 82 = some c82 := (rfl)
theorem e83 : E.fn 83 = some c83 := (rfl)
theorem e85 : E.fn 85 = some c85 := (rfl)
theorem e86 : E.fn 86 = some c86 := (rfl)
theorem e87 : E.fn 87 = some c87 := (rfl)
theorem e88 : E.fn 88 = some c88 := (rfl)
theorem e90 : E.fn 90 = some c90 := (rfl)
theorem e91 : E.fn 91 = some c91 := (rfl)
theorem e92 : E.fn 92 = some c92 := (rfl)
theorem e93 : E.fn 93 = some c93 := (rfl)
theorem e94 : E.fn 94 = some c94 := (rfl)
theorem e95 : E.fn 95 = some c95 := (rfl)
theorem e96 : E.fn 96 = some c96 := (rfl)
theorem e97 : E.fn 97 = some c97 := (rfl)
theorem e98 : E.fn 98 = some c98 := (rfl)
theorem e99 : E.fn 99 = some c99 := (rfl)
theorem e100 : E.fn 100 = some c100 := (rfl)
theorem e101 : E.fn 101 = some c101 := (rfl)
theorem e102 : E.fn 102 = some c102 := (rfl)
theorem e103 : E.fn 103 = some c103 := (rfl)
theorem e104 : E.fn 104 = some c104 := (rfl)
theorem e105 : E.fn 105 = some c105 := (rfl)
theorem e106 : E.fn 106 = some c106 := (rfl)
theorem e107 : E.fn 107 = some c107 := (rfl)
theorem e108 : E.fn 108 = some c108 := (rfl)
theorem e109 : E.fn 109 = some c109 := (rfl)
theorem e110 : E.fn 110 = some c110 := (rfl)
theorem e111 : E.fn 111 = some c111 := (rfl)
theorem e112 : E.fn 112 = some c112 := (rfl)
theorem e113 : E.fn 113 = some c113 := (rfl)
theorem e114 : E.fn 114 = some c114 := (rfl)
theorem e116 : E.fn 116 = some c116 := (rfl)
theorem e118 : E.fn 118 = some c118 := (rfl)
theorem e119 : E.fn 119 = some c119 := (rfl)
theorem e120 : E.fn 120 = some c120 := (rfl)
theorem e121 : E.fn 121 = some c121 := (rfl)
theorem e122 : E.fn 122 = some c122 := (rfl)
theorem e123 : E.fn 123 = some c123 := (rfl)
theorem e124 : E.fn 124 = some c124 := (rfl)
theorem e125 : E.fn 125 = some c125 := (rfl)
theorem e126 : E.fn 126 = some c126 := (rfl)
theorem e127 : E.fn 127 = some c127 := (rfl)
theorem e128 : E.fn 128 = some c128 := (rfl)
theorem e129 : E.fn 129 = some c129 := (rfl)
theorem e130 : E.fn 130 = some c130 := (rfl)
theorem e131 : E.fn 131 = some c131 := (rfl)
theorem e132 : E.fn 132 = some c132 := (rfl)
theorem e133 : E.fn 133 = some c133 := (rfl)
theorem e134 : E.fn 134 = some c134 := (rfl)
theorem e135 : E.fn 135 = some c135 := (rfl)
theorem e136 : E.fn 136 = some c136 := (rfl)
theorem e137 : E.fn 137 = some c137 := (rfl)
theorem e138 : E.fn 138 = some c138 := (rfl)
theorem e139 : E.fn 139 = some c139 := (rfl)
theorem e140 : E.fn 140 = some c140 := (rfl)
theorem e141 : E.fn 141 = some c141 := (rfl)
theorem e142 : E.fn 142 = some c142 := (rfl)
theorem e144 : E.fn 144 = some c144 := (rfl)
theorem e145 : E.fn 145 = some c145 := (rfl)
theorem e146 : E.fn 146 = some c146 := (rfl)
theorem e147 : E.fn 147 = some c147 := (rfl)
theorem e148 : E.fn 148 = some c148 := (rfl)
theorem e149 : E.fn 149 = some c149 := (rfl)
theorem e150 : E.fn 150 = some c150 := (rfl)
theorem e151 : E.fn 151 = some c151 := (rfl)
theorem e152 : E.fn 152 = some c152 := (rfl)
theorem e153 : E.fn 153 = some c153 := (rfl)
theorem e154 : E.fn 154 = some c154 := (rfl)
theorem e155 : E.fn 155 = some c155 := (rfl)
theorem mixed : Tryz.prog.follows .mixedOrders = true := by kernel_rfl
theorem E_ok : EnvOk Tryz.prog E := ⟨fn_ok, lift_sound E0_ok mixed0 liftF⟩
end Go.Ai

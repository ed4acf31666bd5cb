/- The functions of the seat, part 4. -/
import Derived.Test.YtcdbmkidaecdiaaGreatC16z
namespace Go.Proofs.YtcdbmkidaecdiaaGreat
open Go Go.Ay
set_option maxRecDepth 100000
noncomputable abbrev uX:=zZ 17
noncomputable abbrev Du:=zZ 29
noncomputable abbrev Pl:=zZ 33
noncomputable abbrev Kw:=zZ 41
noncomputable abbrev Fl:=zZ 42
noncomputable abbrev ajL:=zZ 44
noncomputable abbrev rZ:=zZ 46
noncomputable abbrev fO:=zZ 52
noncomputable abbrev Dj:=zZ 65
noncomputable abbrev pZ:=zZ 66
noncomputable abbrev tV:=zZ 69
noncomputable abbrev Aj:=zZ 74
noncomputable abbrev wM:=zZ 76
noncomputable abbrev tK:=zZ 77
noncomputable abbrev oU:=zZ 84
noncomputable abbrev Dw:=zZ 86
noncomputable abbrev rG:=zZ 87
noncomputable abbrev iK:=zZ 117
noncomputable abbrev aiY:=zZ 119
noncomputable abbrev tJ:=zZ 120
noncomputable abbrev wK:=zZ 122
noncomputable abbrev vV:=zZ 124
noncomputable abbrev iB:=zZ 127
noncomputable abbrev akJ:=zZ 134
noncomputable abbrev lD:=zZ 138
noncomputable abbrev mL:=zZ 139
noncomputable abbrev agN:=zZ 140
noncomputable abbrev pV:=zZ 143
noncomputable abbrev Ai:=zZ 144
noncomputable abbrev Gh:=zZ 157
noncomputable abbrev Gz:=zZ 158
noncomputable abbrev pN:=zZ 165
noncomputable abbrev dJ:=zZ 170
noncomputable abbrev lF:=zZ 179
noncomputable abbrev ajT:=zZ 181
noncomputable abbrev oY:=zZ 182
noncomputable abbrev oE:=zZ 195
noncomputable abbrev kZ:=zZ 197
noncomputable abbrev mZ:=zZ 198
noncomputable abbrev gO:=zZ 211
noncomputable abbrev pF:=zZ 213
noncomputable abbrev iI:=zZ 215
noncomputable abbrev iC:=zZ 217
noncomputable abbrev Ei:=zZ 226
noncomputable abbrev mM:=zZ 232
noncomputable abbrev oF:=zZ 233
noncomputable abbrev jC:=zZ 238
noncomputable abbrev iQ:=zZ 240
noncomputable abbrev jY:=zZ 241
noncomputable abbrev yP:=zZ 246
noncomputable abbrev fK:=zZ 247
noncomputable abbrev fF:=zZ 261
end Go.Proofs.YtcdbmkidaecdiaaGreat

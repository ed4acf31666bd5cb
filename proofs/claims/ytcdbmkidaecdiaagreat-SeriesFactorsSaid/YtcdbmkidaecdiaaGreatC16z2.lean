/- The functions of the seat, part 2. -/
import Derived.Test.YtcdbmkidaecdiaaGreatC16z
namespace Go.Proofs.YtcdbmkidaecdiaaGreat
open Go Go.Ay
set_option maxRecDepth 100000
noncomputable abbrev rK:=zZ 6
noncomputable abbrev Oj:=zZ 22
noncomputable abbrev Bv:=zZ 28
noncomputable abbrev BP:=zZ 32
noncomputable abbrev Qu:=zZ 40
noncomputable abbrev ajL:=zZ 44
noncomputable abbrev aiS:=zZ 58
noncomputable abbrev pZ:=zZ 66
noncomputable abbrev Bs:=zZ 67
noncomputable abbrev tE:=zZ 71
noncomputable abbrev Aj:=zZ 74
noncomputable abbrev FF:=zZ 82
noncomputable abbrev Dw:=zZ 86
noncomputable abbrev rG:=zZ 87
noncomputable abbrev kB:=zZ 103
noncomputable abbrev eM:=zZ 108
noncomputable abbrev pU:=zZ 130
noncomputable abbrev rV:=zZ 132
noncomputable abbrev yQ:=zZ 136
noncomputable abbrev Dr:=zZ 141
noncomputable abbrev Gh:=zZ 157
noncomputable abbrev Bi:=zZ 161
noncomputable abbrev cG:=zZ 163
noncomputable abbrev rE:=zZ 164
noncomputable abbrev dJ:=zZ 170
noncomputable abbrev cQ:=zZ 171
noncomputable abbrev fN:=zZ 175
noncomputable abbrev oN:=zZ 177
noncomputable abbrev lF:=zZ 179
noncomputable abbrev Hd:=zZ 185
noncomputable abbrev pP:=zZ 188
noncomputable abbrev Hk:=zZ 191
noncomputable abbrev wT:=zZ 192
noncomputable abbrev oE:=zZ 195
noncomputable abbrev kZ:=zZ 197
noncomputable abbrev mZ:=zZ 198
noncomputable abbrev ahK:=zZ 208
noncomputable abbrev iI:=zZ 215
noncomputable abbrev eV:=zZ 216
noncomputable abbrev CN:=zZ 224
noncomputable abbrev dS:=zZ 237
noncomputable abbrev iQ:=zZ 240
noncomputable abbrev fK:=zZ 247
noncomputable abbrev dI:=zZ 249
noncomputable abbrev fP:=zZ 251
noncomputable abbrev sV:=zZ 253
noncomputable abbrev zT:=zZ 255
noncomputable abbrev lT:=zZ 256
noncomputable abbrev lI:=zZ 259
noncomputable abbrev iD:=zZ 264
end Go.Proofs.YtcdbmkidaecdiaaGreat

/- The functions of the seat, part 1. -/
import Derived.Test.YtcdbmkidaecdiaaGreatC16z
namespace Go.Proofs.YtcdbmkidaecdiaaGreat
open Go Go.Ay
set_option maxRecDepth 100000
noncomputable abbrev Cs:=zZ 11
noncomputable abbrev wT:=zZ 14
noncomputable abbrev Sy:=zZ 40
noncomputable abbrev zD:=zZ 45
noncomputable abbrev nG:=zZ 47
noncomputable abbrev uS:=zZ 49
noncomputable abbrev eU:=zZ 57
noncomputable abbrev pH:=zZ 66
noncomputable abbrev dI:=zZ 68
noncomputable abbrev dN:=zZ 70
noncomputable abbrev oE:=zZ 74
noncomputable abbrev vZ:=zZ 76
noncomputable abbrev tF:=zZ 77
noncomputable abbrev jD:=zZ 90
noncomputable abbrev Sr:=zZ 91
noncomputable abbrev Ac:=zZ 97
noncomputable abbrev eJ:=zZ 108
noncomputable abbrev Gx:=zZ 110
noncomputable abbrev tX:=zZ 120
noncomputable abbrev Lf:=zZ 123
noncomputable abbrev tZ:=zZ 125
noncomputable abbrev Hg:=zZ 126
noncomputable abbrev yW:=zZ 128
noncomputable abbrev oZ:=zZ 130
noncomputable abbrev rW:=zZ 132
noncomputable abbrev yZ:=zZ 136
noncomputable abbrev sS:=zZ 140
noncomputable abbrev rY:=zZ 142
noncomputable abbrev oY:=zZ 143
noncomputable abbrev Hd:=zZ 146
noncomputable abbrev Cy:=zZ 148
noncomputable abbrev zE:=zZ 152
noncomputable abbrev pE:=zZ 165
noncomputable abbrev Hk:=zZ 178
noncomputable abbrev kQ:=zZ 179
noncomputable abbrev oD:=zZ 182
noncomputable abbrev Am:=zZ 187
noncomputable abbrev oX:=zZ 188
noncomputable abbrev xB:=zZ 192
noncomputable abbrev Gj:=zZ 210
noncomputable abbrev nV:=zZ 213
noncomputable abbrev fO:=zZ 219
noncomputable abbrev Dj:=zZ 223
noncomputable abbrev tK:=zZ 229
noncomputable abbrev iE:=zZ 240
noncomputable abbrev zC:=zZ 246
noncomputable abbrev fT:=zZ 254
noncomputable abbrev zT:=zZ 255
noncomputable abbrev eX:=zZ 261
noncomputable abbrev gU:=zZ 262
end Go.Proofs.YtcdbmkidaecdiaaGreat

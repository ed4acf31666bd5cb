/- The functions of the seat, part 4. -/
import Derived.Test.YtcdbmkidaecdiaaGreatC16z
namespace Go.Proofs.YtcdbmkidaecdiaaGreat
open Go Go.Ay
set_option maxRecDepth 100000
noncomputable abbrev iP:=zZ 27
noncomputable abbrev Es:=zZ 29
noncomputable abbrev Cx:=zZ 37
noncomputable abbrev Mi:=zZ 41
noncomputable abbrev oN:=zZ 47
noncomputable abbrev vW:=zZ 49
noncomputable abbrev eX:=zZ 54
noncomputable abbrev vU:=zZ 61
noncomputable abbrev rH:=zZ 63
noncomputable abbrev qK:=zZ 64
noncomputable abbrev qW:=zZ 66
noncomputable abbrev Bw:=zZ 74
noncomputable abbrev jN:=zZ 83
noncomputable abbrev Er:=zZ 86
noncomputable abbrev sV:=zZ 89
noncomputable abbrev fT:=zZ 95
noncomputable abbrev kT:=zZ 96
noncomputable abbrev Bh:=zZ 97
noncomputable abbrev Cr:=zZ 100
noncomputable abbrev tB:=zZ 104
noncomputable abbrev nH:=zZ 109
noncomputable abbrev vZ:=zZ 111
noncomputable abbrev mP:=zZ 113
noncomputable abbrev Lr:=zZ 119
noncomputable abbrev yG:=zZ 124
noncomputable abbrev zV:=zZ 128
noncomputable abbrev mU:=zZ 139
noncomputable abbrev tJ:=zZ 140
noncomputable abbrev kH:=zZ 142
noncomputable abbrev Au:=zZ 151
noncomputable abbrev Hl:=zZ 157
noncomputable abbrev Iy:=zZ 158
noncomputable abbrev kB:=zZ 170
noncomputable abbrev jV:=zZ 174
noncomputable abbrev Ck:=zZ 180
noncomputable abbrev Mb:=zZ 181
noncomputable abbrev Cf:=zZ 187
noncomputable abbrev rQ:=zZ 189
noncomputable abbrev iT:=zZ 190
noncomputable abbrev Ih:=zZ 191
noncomputable abbrev oP:=zZ 195
noncomputable abbrev nY:=zZ 198
noncomputable abbrev rS:=zZ 200
noncomputable abbrev Io:=zZ 204
noncomputable abbrev nE:=zZ 215
noncomputable abbrev yJ:=zZ 220
noncomputable abbrev EU:=zZ 224
noncomputable abbrev uW:=zZ 229
noncomputable abbrev cQ:=zZ 250
noncomputable abbrev Cj:=zZ 255
noncomputable abbrev eS:=zZ 260
noncomputable abbrev dQ:=zZ 261
end Go.Proofs.YtcdbmkidaecdiaaGreat

/- The functions of the seat, part 4. -/
import Derived.Test.YtcdbmkidaecdiaaGreatC16z
namespace Go.Proofs.YtcdbmkidaecdiaaGreat
open Go Go.Ay
set_option maxRecDepth 100000
noncomputable abbrev tD:=zZ 9
noncomputable abbrev yL:=zZ 18
noncomputable abbrev Bs:=zZ 28
noncomputable abbrev rZ:=zZ 31
noncomputable abbrev Ba:=zZ 33
noncomputable abbrev Ox:=zZ 38
noncomputable abbrev Mi:=zZ 41
noncomputable abbrev Aa:=zZ 45
noncomputable abbrev tA:=zZ 46
noncomputable abbrev oN:=zZ 47
noncomputable abbrev fH:=zZ 51
noncomputable abbrev gJ:=zZ 52
noncomputable abbrev fR:=zZ 57
noncomputable abbrev zN:=zZ 58
noncomputable abbrev eJ:=zZ 70
noncomputable abbrev Bw:=zZ 74
noncomputable abbrev rI:=zZ 78
noncomputable abbrev yP:=zZ 81
noncomputable abbrev oW:=zZ 84
noncomputable abbrev rV:=zZ 87
noncomputable abbrev Ds:=zZ 91
noncomputable abbrev Lh:=zZ 93
noncomputable abbrev Bh:=zZ 97
noncomputable abbrev Lk:=zZ 98
noncomputable abbrev sG:=zZ 102
noncomputable abbrev tB:=zZ 104
noncomputable abbrev nH:=zZ 109
noncomputable abbrev iI:=zZ 117
noncomputable abbrev By:=zZ 121
noncomputable abbrev xV:=zZ 122
noncomputable abbrev sT:=zZ 132
noncomputable abbrev mU:=zZ 139
noncomputable abbrev qN:=zZ 159
noncomputable abbrev rO:=zZ 164
noncomputable abbrev jV:=zZ 174
noncomputable abbrev Mb:=zZ 181
noncomputable abbrev vP:=zZ 183
noncomputable abbrev xW:=zZ 184
noncomputable abbrev dN:=zZ 186
noncomputable abbrev wJ:=zZ 193
noncomputable abbrev mG:=zZ 211
noncomputable abbrev oQ:=zZ 212
noncomputable abbrev nE:=zZ 215
noncomputable abbrev mJ:=zZ 222
noncomputable abbrev Ef:=zZ 225
noncomputable abbrev iX:=zZ 234
noncomputable abbrev dV:=zZ 247
noncomputable abbrev eV:=zZ 248
noncomputable abbrev dF:=zZ 252
noncomputable abbrev iT:=zZ 258
noncomputable abbrev fF:=zZ 264
end Go.Proofs.YtcdbmkidaecdiaaGreat

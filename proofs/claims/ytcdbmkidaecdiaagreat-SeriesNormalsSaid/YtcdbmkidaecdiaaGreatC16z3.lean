/- The functions of the seat, part 3. -/
import Derived.Test.YtcdbmkidaecdiaaGreatC16z
namespace Go.Proofs.YtcdbmkidaecdiaaGreat
open Go Go.Ay
set_option maxRecDepth 100000
noncomputable abbrev Co:=zZ 12
noncomputable abbrev xT:=zZ 14
noncomputable abbrev mC:=zZ 16
noncomputable abbrev nK:=zZ 28
noncomputable abbrev Gs:=zZ 30
noncomputable abbrev rZ:=zZ 31
noncomputable abbrev Ue:=zZ 39
noncomputable abbrev Aa:=zZ 45
noncomputable abbrev fH:=zZ 51
noncomputable abbrev yQ:=zZ 53
noncomputable abbrev zY:=zZ 56
noncomputable abbrev kE:=zZ 59
noncomputable abbrev Ep:=zZ 65
noncomputable abbrev oW:=zZ 84
noncomputable abbrev Ds:=zZ 91
noncomputable abbrev Lh:=zZ 93
noncomputable abbrev He:=zZ 101
noncomputable abbrev kI:=zZ 105
noncomputable abbrev Bx:=zZ 106
noncomputable abbrev vE:=zZ 110
noncomputable abbrev xQ:=zZ 114
noncomputable abbrev xH:=zZ 115
noncomputable abbrev tD:=zZ 116
noncomputable abbrev Pt:=zZ 134
noncomputable abbrev DU:=zZ 137
noncomputable abbrev uA:=zZ 145
noncomputable abbrev mF:=zZ 152
noncomputable abbrev qN:=zZ 159
noncomputable abbrev An:=zZ 161
noncomputable abbrev rO:=zZ 164
noncomputable abbrev kA:=zZ 168
noncomputable abbrev kX:=zZ 171
noncomputable abbrev kG:=zZ 172
noncomputable abbrev lV:=zZ 175
noncomputable abbrev Ir:=zZ 178
noncomputable abbrev lT:=zZ 179
noncomputable abbrev vP:=zZ 183
noncomputable abbrev dN:=zZ 186
noncomputable abbrev qH:=zZ 188
noncomputable abbrev sZ:=zZ 194
noncomputable abbrev Bj:=zZ 199
noncomputable abbrev gU:=zZ 201
noncomputable abbrev rE:=zZ 202
noncomputable abbrev uP:=zZ 203
noncomputable abbrev Ps:=zZ 208
noncomputable abbrev mG:=zZ 211
noncomputable abbrev iF:=zZ 217
noncomputable abbrev Ef:=zZ 225
noncomputable abbrev iX:=zZ 234
noncomputable abbrev dF:=zZ 252
noncomputable abbrev mI:=zZ 256
noncomputable abbrev fF:=zZ 264
end Go.Proofs.YtcdbmkidaecdiaaGreat

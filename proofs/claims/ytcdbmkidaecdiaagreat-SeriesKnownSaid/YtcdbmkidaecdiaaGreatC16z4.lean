/- The functions of the seat, part 4. -/
import Derived.Test.YtcdbmkidaecdiaaGreatC16z
namespace Go.Proofs.YtcdbmkidaecdiaaGreat
open Go Go.Ay
set_option maxRecDepth 100000
noncomputable abbrev Ak:=zZ 12
noncomputable abbrev uP:=zZ 22
noncomputable abbrev Bv:=zZ 28
noncomputable abbrev rP:=zZ 31
noncomputable abbrev rZ:=zZ 46
noncomputable abbrev pX:=zZ 50
noncomputable abbrev eD:=zZ 51
noncomputable abbrev dY:=zZ 54
noncomputable abbrev nH:=zZ 55
noncomputable abbrev wM:=zZ 76
noncomputable abbrev rJ:=zZ 78
noncomputable abbrev qQ:=zZ 85
noncomputable abbrev Dw:=zZ 86
noncomputable abbrev rG:=zZ 87
noncomputable abbrev Db:=zZ 99
noncomputable abbrev uU:=zZ 107
noncomputable abbrev Ki:=zZ 119
noncomputable abbrev Ka:=zZ 123
noncomputable abbrev vV:=zZ 124
noncomputable abbrev lD:=zZ 138
noncomputable abbrev mL:=zZ 139
noncomputable abbrev Ge:=zZ 146
noncomputable abbrev uM:=zZ 147
noncomputable abbrev Dq:=zZ 150
noncomputable abbrev fJ:=zZ 155
noncomputable abbrev xH:=zZ 160
noncomputable abbrev Bi:=zZ 161
noncomputable abbrev oT:=zZ 162
noncomputable abbrev gW:=zZ 169
noncomputable abbrev cQ:=zZ 171
noncomputable abbrev dV:=zZ 173
noncomputable abbrev fE:=zZ 174
noncomputable abbrev lF:=zZ 179
noncomputable abbrev Jy:=zZ 181
noncomputable abbrev Hd:=zZ 185
noncomputable abbrev eU:=zZ 186
noncomputable abbrev pQ:=zZ 190
noncomputable abbrev Hk:=zZ 191
noncomputable abbrev uH:=zZ 193
noncomputable abbrev rY:=zZ 194
noncomputable abbrev Nj:=zZ 209
noncomputable abbrev gO:=zZ 211
noncomputable abbrev iC:=zZ 217
noncomputable abbrev sP:=zZ 221
noncomputable abbrev De:=zZ 223
noncomputable abbrev iA:=zZ 227
noncomputable abbrev uY:=zZ 228
noncomputable abbrev jC:=zZ 238
end Go.Proofs.YtcdbmkidaecdiaaGreat

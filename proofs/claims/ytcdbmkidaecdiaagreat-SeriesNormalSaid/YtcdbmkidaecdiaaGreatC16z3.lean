/- The functions of the seat, part 3. -/
import Derived.Test.YtcdbmkidaecdiaaGreatC16z
namespace Go.Proofs.YtcdbmkidaecdiaaGreat
open Go Go.Ay
set_option maxRecDepth 100000
noncomputable abbrev Da:=zZ 11
noncomputable abbrev wI:=zZ 18
noncomputable abbrev Av:=zZ 20
noncomputable abbrev sM:=zZ 22
noncomputable abbrev yS:=zZ 26
noncomputable abbrev Bv:=zZ 28
noncomputable abbrev ajC:=zZ 38
noncomputable abbrev Qu:=zZ 40
noncomputable abbrev yT:=zZ 45
noncomputable abbrev eD:=zZ 51
noncomputable abbrev xC:=zZ 53
noncomputable abbrev eX:=zZ 57
noncomputable abbrev Bs:=zZ 67
noncomputable abbrev tE:=zZ 71
noncomputable abbrev FF:=zZ 82
noncomputable abbrev ajV:=zZ 93
noncomputable abbrev ajF:=zZ 101
noncomputable abbrev sE:=zZ 102
noncomputable abbrev sG:=zZ 104
noncomputable abbrev mX:=zZ 109
noncomputable abbrev Ka:=zZ 123
noncomputable abbrev rV:=zZ 132
noncomputable abbrev rU:=zZ 133
noncomputable abbrev Dr:=zZ 141
noncomputable abbrev tC:=zZ 145
noncomputable abbrev fJ:=zZ 155
noncomputable abbrev Bi:=zZ 161
noncomputable abbrev gW:=zZ 169
noncomputable abbrev cQ:=zZ 171
noncomputable abbrev fS:=zZ 172
noncomputable abbrev fN:=zZ 175
noncomputable abbrev Hc:=zZ 178
noncomputable abbrev uG:=zZ 183
noncomputable abbrev Hd:=zZ 185
noncomputable abbrev Br:=zZ 187
noncomputable abbrev pP:=zZ 188
noncomputable abbrev Hk:=zZ 191
noncomputable abbrev wT:=zZ 192
noncomputable abbrev oZ:=zZ 206
noncomputable abbrev Pj:=zZ 208
noncomputable abbrev nU:=zZ 212
noncomputable abbrev Bd:=zZ 218
noncomputable abbrev CN:=zZ 224
noncomputable abbrev Dg:=zZ 225
noncomputable abbrev tH:=zZ 229
noncomputable abbrev rT:=zZ 230
noncomputable abbrev fX:=zZ 239
noncomputable abbrev iH:=zZ 245
noncomputable abbrev dI:=zZ 249
noncomputable abbrev dU:=zZ 252
noncomputable abbrev kO:=zZ 257
noncomputable abbrev mE:=zZ 263
end Go.Proofs.YtcdbmkidaecdiaaGreat

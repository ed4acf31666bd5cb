/- What an operation hangs on. -/
import Derived.Test.YtcdbmkidaecdiaaGreatAy11
namespace Go.Ay
open Go
section
variable {ρ:X->V} {h h':H} {i:I} {v:V}
theorem Jl {ρ':X->V}(a: ∀x∈i.xs,ρ x=ρ' x):cK ρ h i=cK ρ' h i:=by
 have d: ∀(l:List X),(∀x∈l,ρ x=ρ' x)->l.map ρ=l.map ρ':=λl g=>Wd g
 cases i with
 |mm mx xs=>simp only[cK];rw[d xs a]
 |mkf f fs cs=>simp only[cK];rw[d fs (λx h=>a x (by simp [I.xs,h])),d cs (λx h=>a x (by simp [I.xs,h]))]
 |bld z ps=>
  simp only[cK];rw[show (ps.map λp=>(p.1,p.2.1,ρ p.2.2))=ps.map λp=>(p.1,p.2.1,ρ' p.2.2) from Wd λp c=>by rw[a p.2.2 (by simp only[I.xs,vF];exact⟨p,c,rfl⟩)]]
 |bls s z n ps=>
  simp only[cK];rw[show (ps.map λp=>(p.1,p.2.1,ρ p.2.2))=ps.map λp=>(p.1,p.2.1,ρ' p.2.2) from Wd λp c=>by rw[a p.2.2 (by simp only[I.xs,vF];exact⟨p,c,rfl⟩)]]
 |slc s x lo hi mx=>
  simp only[cK];rw[a x (by simp [I.xs])];have b:lo.map ρ=lo.map ρ':=by cases lo with|none=>rfl|some y=>simp [a y (by simp [I.xs])]
  have e:hi.map ρ=hi.map ρ':=by cases hi with|none=>rfl|some y=>simp [a y (by simp [I.xs])]
  have j:mx.map ρ=mx.map ρ':=by cases mx with|none=>rfl|some y=>simp [a y (by simp [I.xs])]
  rw[b,e,j]
 |sla n s x lo hi=>
  simp only[cK];rw[a x (by simp [I.xs])];have b:lo.map ρ=lo.map ρ':=by cases lo with|none=>rfl|some y=>simp [a y (by simp [I.xs])]
  have e:hi.map ρ=hi.map ρ':=by cases hi with|none=>rfl|some y=>simp [a y (by simp [I.xs])]
  rw[b,e]
 |mkw s r=>
  have b:r.map ρ=r.map ρ':=by cases r with|none=>rfl|some y=>simp [a y (by simp [I.xs])]
  simp only[cK,b]
 |_=>simp only[cK,I.xs,Gr,List.mem_nil_iff,or_false,forall_eq_or_imp,forall_eq,List.not_mem_nil] at a ⊢ <;>simp only[a]
set_option maxHeartbeats 1000000 in
theorem Zo (b:i.sP=false)(h2:i.mF=false)(h3:i.sY=false)(a:cK ρ h i=some (v,h')):
  h'=h/\ ∀h2,cK ρ h2 i=some (v,h2):=by
 cases i<;>simp [I.sP,I.mF,I.sY] at b h2 h3<;>simp only[cK,Option.map_map] at a ⊢ <;>
  (repeat' first
   |(cases a;done)
   |(cases a;exact⟨rfl,λ_=>by simp [*]⟩)
   |exact⟨rfl,λ_=>rfl⟩
   |(simp only[lT,Prod.mk.injEq] at a;obtain⟨_,c,rfl,rfl⟩:=a;exact⟨rfl,λ_=>by simp [*]⟩)
   |split at a)
theorem SS (b:i.sP=true)(a:cK ρ h i=some (v,h')):h'=h:=by
 cases i<;>simp [I.sP] at b<;>simp only[cK] at a<;>
  (repeat' first
   |(cases a;done)
   |(cases a;rfl)
   |(simp only[lT,Prod.mk.injEq] at a;obtain⟨_,d,c,rfl⟩:=a;rfl)
   |split at a)
theorem JS {vs ws:List V}(a:i.sP=true):cK (xv vs ws) h (i.close ρ)=cK ρ h i:=by
 cases i<;>simp [I.sP] at a<;>first|rfl|simp only[cK,I.close,xv]
set_option maxHeartbeats 1000000 in
theorem aiB (f:i.mF=true)(a:cK ρ h i=some (v,h')):
  ∃o:Ob,o.rw=true/\h'=h.new o/\ ∀h2:H,h2.next=h.next->cK ρ h2 i=some (v,h2.new o):=by
 cases i<;>simp [I.mF] at f<;>simp only[cK,Iv] at a ⊢
 case alc z=>cases a;exact⟨_,rfl,rfl,λh2 e=>by rw[e]⟩
 case mkm=>cases a;exact⟨_,rfl,rfl,λh2 e=>by rw[e]⟩
 case mkw s r=>
  split at a
  ·rename_i d
   cases a;exact⟨_,rfl,rfl,λh2 e=>by rw[bJ d,e]⟩
  ·cases a
 case box x=>
  split at a
  ·rename_i d
   cases a;exact⟨.cells false (ρ x).cells,rfl,rfl,λh2 e=>by rw[bJ d,e]⟩
  ·cases a
 case mks s b z l c=>
  split at a
  ·rename_i m j p k g q
   split at a
   ·rename_i d
    cases a;exact⟨_,rfl,rfl,λh2 e=>by rw[bJ d,e]⟩
   ·cases a
  ·cases a
 case bls s z n ps=>
  split at a
  ·rename_i t g
   split at a
   ·rename_i d
    cases a;exact⟨_,rfl,rfl,λh2 e=>by rw[bJ d,e]⟩
   ·cases a
  ·cases a
theorem BA {f j:dM}{d:dO}{c a b:List V}(e: ∀x∈d.xs,xv c b x=xv a b x):
  kY f j c b h d=kY f j a b h d:=by
 cases d with
 |op i=>rw[tQ,tQ];exact Jl e
 |call g args=>rw[tS,tS];rw[show args.map (xv c b)=args.map (xv a b) from Wd (λx h=>e x h)]
 |callv x args=>
  rw[rL,rL];rw[e x (by simp [dO.xs]),Wd (λy h=>e y (by simp [dO.xs,h]))]
 |calli g t x args=>
  rw[rE,rE];rw[e x (by simp [dO.xs]),Wd (λy h=>e y (by simp [dO.xs,h]))]
 |callp g args=>rw[lD,lD];rw[show args.map (xv c b)=args.map (xv a b) from Wd (λx h=>e x h)]
end
end Go.Ay

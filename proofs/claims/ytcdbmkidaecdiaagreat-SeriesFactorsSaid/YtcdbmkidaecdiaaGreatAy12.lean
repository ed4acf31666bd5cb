/- What an operation hangs on. -/
import Derived.Test.YtcdbmkidaecdiaaGreatAy11
namespace Go.Ay
open Go
section
variable {ρ:X->V} {h h':H} {i:I} {v:V}
theorem Ir {ρ':X->V}(a: ∀x∈i.xs,ρ x=ρ' x):cI ρ h i=cI ρ' h i:=by
 have d: ∀(l:List X),(∀x∈l,ρ x=ρ' x)->l.map ρ=l.map ρ':=λl k=>Vy k
 cases i with
 |mm mx xs=>simp only[cI];rw[d xs a]
 |mkf f fs cs=>simp only[cI];rw[d fs (λx h=>a x (by simp [I.xs,h])),d cs (λx h=>a x (by simp [I.xs,h]))]
 |bld z ps=>
  simp only[cI];rw[show (ps.map λp=>(p.1,p.2.1,ρ p.2.2))=ps.map λp=>(p.1,p.2.1,ρ' p.2.2) from Vy λp j=>by rw[a p.2.2 (by simp only[I.xs,uF];exact⟨p,j,rfl⟩)]]
 |bls s z n ps=>
  simp only[cI];rw[show (ps.map λp=>(p.1,p.2.1,ρ p.2.2))=ps.map λp=>(p.1,p.2.1,ρ' p.2.2) from Vy λp j=>by rw[a p.2.2 (by simp only[I.xs,uF];exact⟨p,j,rfl⟩)]]
 |slc s x lo hi mx=>
  simp only[cI];rw[a x (by simp [I.xs])];have b:lo.map ρ=lo.map ρ':=by cases lo with|none=>rfl|some y=>simp [a y (by simp [I.xs])]
  have c:hi.map ρ=hi.map ρ':=by cases hi with|none=>rfl|some y=>simp [a y (by simp [I.xs])]
  have m:mx.map ρ=mx.map ρ':=by cases mx with|none=>rfl|some y=>simp [a y (by simp [I.xs])]
  rw[b,c,m]
 |sla n s x lo hi=>
  simp only[cI];rw[a x (by simp [I.xs])];have b:lo.map ρ=lo.map ρ':=by cases lo with|none=>rfl|some y=>simp [a y (by simp [I.xs])]
  have c:hi.map ρ=hi.map ρ':=by cases hi with|none=>rfl|some y=>simp [a y (by simp [I.xs])]
  rw[b,c]
 |mkw s r=>
  have b:r.map ρ=r.map ρ':=by cases r with|none=>rfl|some y=>simp [a y (by simp [I.xs])]
  simp only[cI,b]
 |_=>simp only[cI,I.xs,zH,List.mem_nil_iff,or_false,forall_eq_or_imp,forall_eq,List.not_mem_nil] at a ⊢ <;>simp only[a]
set_option maxHeartbeats 1000000 in
theorem Zk (b:i.sJ=false)(h2:i.Ki=false)(h3:i.uB=false)(a:cI ρ h i=some (v,h')):
  h'=h/\ ∀h2,cI ρ h2 i=some (v,h2):=by
 cases i<;>simp [I.sJ,I.Ki,I.uB] at b h2 h3<;>simp only[cI,Option.map_map] at a ⊢ <;>
  (repeat' first
   |(cases a;done)
   |(cases a;exact⟨rfl,λ_=>by simp [*]⟩)
   |exact⟨rfl,λ_=>rfl⟩
   |(simp only[mJ,Prod.mk.injEq] at a;obtain⟨_,c,rfl,rfl⟩:=a;exact⟨rfl,λ_=>by simp [*]⟩)
   |split at a)
theorem RN (b:i.sJ=true)(a:cI ρ h i=some (v,h')):h'=h:=by
 cases i<;>simp [I.sJ] at b<;>simp only[cI] at a<;>
  (repeat' first
   |(cases a;done)
   |(cases a;rfl)
   |(simp only[mJ,Prod.mk.injEq] at a;obtain⟨_,c,d,rfl⟩:=a;rfl)
   |split at a)
theorem IG {vs ws:List V}(a:i.sJ=true):cI (xv vs ws) h (i.close ρ)=cI ρ h i:=by
 cases i<;>simp [I.sJ] at a<;>first|rfl|simp only[cI,I.close,xv]
set_option maxHeartbeats 1000000 in
theorem agK (j:i.Ki=true)(a:cI ρ h i=some (v,h')):
  ∃o:Ob,o.rw=true/\h'=h.new o/\ ∀h2:H,h2.next=h.next->cI ρ h2 i=some (v,h2.new o):=by
 cases i<;>simp [I.Ki] at j<;>simp only[cI,Jo] at a ⊢
 case alc z=>cases a;exact⟨_,rfl,rfl,λh2 e=>by rw[e]⟩
 case mkm=>cases a;exact⟨_,rfl,rfl,λh2 e=>by rw[e]⟩
 case mkw s r=>
  split at a
  ·rename_i d
   cases a;exact⟨_,rfl,rfl,λh2 e=>by rw[bF d,e]⟩
  ·cases a
 case box x=>
  split at a
  ·rename_i d
   cases a;exact⟨.cells false (ρ x).cells,rfl,rfl,λh2 e=>by rw[bF d,e]⟩
  ·cases a
 case mks s b z l c=>
  split at a
  ·rename_i u t k q f m
   split at a
   ·rename_i d
    cases a;exact⟨_,rfl,rfl,λh2 e=>by rw[bF d,e]⟩
   ·cases a
  ·cases a
 case bls s z n ps=>
  split at a
  ·rename_i p f
   split at a
   ·rename_i d
    cases a;exact⟨_,rfl,rfl,λh2 e=>by rw[bF d,e]⟩
   ·cases a
  ·cases a
theorem Zj {j k:dP}{d:dR}{c a b:List V}(f: ∀x∈d.xs,xv c b x=xv a b x):
  Lh j k c b h d=Lh j k a b h d:=by
 cases d with
 |op i=>rw[sX,sX];exact Ir f
 |call g args=>rw[tS,tS];rw[show args.map (xv c b)=args.map (xv a b) from Vy (λx h=>f x h)]
 |callv x args=>
  rw[rF,rF];rw[f x (by simp [dR.xs]),Vy (λy h=>f y (by simp [dR.xs,h]))]
 |calli g t x args=>
  rw[rH,rH];rw[f x (by simp [dR.xs]),Vy (λy h=>f y (by simp [dR.xs,h]))]
 |callp g args=>rw[mB,mB];rw[show args.map (xv c b)=args.map (xv a b) from Vy (λx h=>f x h)]
end
end Go.Ay

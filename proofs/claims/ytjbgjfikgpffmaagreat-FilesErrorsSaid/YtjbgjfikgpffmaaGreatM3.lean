import Derived.Test.YtjbgjfikgpffmaaGreatM2
import Derived.OpenShut
import Derived.ShutString
import Derived.ChangeOld
import Derived.ProofKit
import Derived.WalkKit
set_option linter.all false
set_option autoImplicit true
set_option relaxedAutoImplicit true
set_option maxRecDepth 100000
namespace Go.Am
open List
open Go.Proofs.Tryz
variable{E:Nat->Sm}{k:Nat}{H:Hp}{Q:Post}{U X Y Z u w x x1 y z:Pl}{D L M N O l m n n1 o:Nat}{I g h i j:Int}{C b b1 b2 c d:Bool}{R S e r s t:ByteArray}{A a:Option Nat}{p q:List (Nat×Nat)}{F:Sm}
def aQ_.cx:Cx:=⟨tys,[],[(2000000,[0])],[],[],ax_,[.tmp 6]⟩
def aQ_:=fF aQ_.cx f228
theorem hW_:as_ aQ_.cx f228 (k+1) [nL x n 1,i,j] H Q=cf 0 (nI n) (dk 0 j (leI 0 i) (chk (leN (tN i) (tN j)&&(leN (tN j) (tN (nI n))&&(leN (tN (nI n)) n&&nc_ H x (tN (nI n)*1)))) (bh i j (dz Q x n 1 H) (cf 0 i (eJ (leN 0 (tN i)&&(leN (tN i) n||kf_ H x (tN i*1))) (dk 0 j (leN (tN j) n) (aN (cU H (shf x (tN j*1)) ((n-tN j)*1) H 9 1 16 (shf x 0) (tN i-0) (n-tN j) (λa b c=>cf 0 (nI n) (dk 0 (nI b) (leN (tN (nI b)) (tN (nI n))&&(leN (tN (nI n)) b||kf_ c a (tN (nI n)*1))) (aN (clr c (shf a (tN (nI b)*1)) (tN (nI n)-tN (nI b)) [.str (mkS [])] (λc=>dz Q a b 1 c))))))))))))):=zz
theorem fm_:am_ prog 228 (aQ_):=sO eN nO func228
def dg_.cx:Cx:=⟨tys,[],[],[(4,[5,6,7])],[(227,eW_)],ax_,[.cell 6 100]⟩
def dg_:=fF dg_.cx f246
def dg_.l4 k a b c d e f g h i j l m n o p q r s t u v w x y:=aV_ (dg_.cx) f246 4 k (B 5 (.bx [.bool a,.bool b,.sl c d 1,.sl e f 1,.sl g h 1]::.bx [.bool i,.bool j,.sl l m 1,.sl n o 1,.sl p q 1]::.bx [.bool r,.bool s,.sl t u 1,.sl v w 1,.sl x y 1]::B 30 []))
theorem zj_:as_ dg_.cx f246 (k+1) [.agg [b,c,.sl x n 1,.sl y m 1,.sl z l 1],s,.agg [C,d,.sl u o 1,.sl w N 1,.sl X M 1]] H Q=bc eW_ [.agg [b,c,.sl x n 1,.sl y m 1,.sl z l 1]] H λa b=>ct b 1 1 1 λb e f g h i j l=>aL c (dA a 9 1 16 f g [s] (λa c f=>dg_.l4 k C d u o w N X M false false none 0 none 0 none 0 b e a c h i j l f Q)) (dg_.l4 k C d u o w N X M false false none 0 none 0 none 0 b e f g h i j l a Q):=zz
theorem dg_.l4_eq:dg_.l4 (k+1) b c x n y m z l C d u o w N X M b1 b2 Y L Z O U D H Q=aN (cU H x (n*1) H 9 1 16 Y L n (λa b c=>aN (cU c y (m*1) c 9 1 16 Z O m (λc d e=>aN (cU e z (l*1) e 3 1 8 U D l (λe f g=>eg Q [b1,b2,.sl a b 1,.sl c d 1,.sl e f 1] g)))))):=zz
theorem q2_:am_ prog 246 (dg_):=sO (eZ lP_ func227 eN) nO func246
def bG_.cx:Cx:=⟨tys,[],[],[],[],ax_,[.tmp 2]⟩
def bG_:=fF bG_.cx f269
theorem iI_:as_ bG_.cx f269 (k+1) [nL x n 1] H Q=cf 0 (nI n) (dk 0 (nI n) (leN 0 (tN (nI n))&&(leN (tN (nI n)) (tN (nI n))&&(leN (tN (nI n)) n&&nc_ H x (tN (nI n)*1)))) (dz Q (shf x 0) (tN (nI n)-0) 1 H)):=zz
theorem iz_:am_ prog 269 (bG_):=sO eN nO func269
def cV_.cx:Cx:=⟨tys,[],[],[],[],ax_,[.tmp 2]⟩
def cV_:=fF cV_.cx f270
theorem lc_:as_ cV_.cx f270 (k+1) [nL x n 1] H Q=cf 0 (nI n) (dk 0 (nI n) (leN 0 (tN (nI n))&&(leN (tN (nI n)) (tN (nI n))&&(leN (tN (nI n)) n&&nc_ H x (tN (nI n)*1)))) (dz Q (shf x 0) (tN (nI n)-0) 1 H)):=zz
theorem kX_:am_ prog 270 (cV_):=sO eN nO func270
def h5_.cx:Cx:=⟨tys,[],[],[],[(268,g7_),(246,dg_),(269,bG_),(270,cV_)],ax_,[.cell 6 100,.tmp 7]⟩
def h5_:=fF h5_.cx f244
theorem y0_:as_ h5_.cx f244 (k+1) [.agg [b,c,.sl x n 1,.sl y m 1,.sl z l 1],s,.agg [C,d,.sl u o 1,.sl w N 1,.sl X M 1]] H Q=dN g7_ [.agg [b,c,.sl x n 1,.sl y m 1,.sl z l 1]] H Q [.a [false,false,.sl none 0 1,.sl none 0 1,.sl none 0 1],nN 900] g7_ [.agg [C,d,.sl u o 1,.sl w N 1,.sl X M 1]] Q λa=>aL (eqB c d) (ax Q [.a [false,false,.sl none 0 1,.sl none 0 1,.sl none 0 1],nN 900] a) (bc dg_ [.agg [b,c,.sl x n 1,.sl y m 1,.sl z l 1],s,.agg [C,d,.sl u o 1,.sl w N 1,.sl X M 1]] a (λa b=>ct b 1 1 1 λb c d e f g h i=>bq g7_ [.agg [b,c,.sl d e 1,.sl f g 1,.sl h i 1]] a Q [.a [false,false,.sl none 0 1,.sl none 0 1,.sl none 0 1],nN 900] λa=>aC bG_ [nL d e 1] a 1 λa d e=>aC bG_ [nL f g 1] a 1 λa f g=>aC cV_ [nL h i 1] a 1 λa h i=>ax Q [.a [b,c,.sl d e 1,.sl f g 1,.sl h i 1],nN 0] a)):=zz
theorem zg_:am_ prog 244 (h5_):=sO (eZ tG_ func268 (eZ q2_ func246 (eZ iz_ func269 (eZ kX_ func270 eN)))) nO func244
def b9_.cx:Cx:=⟨tys,[],[(2000000,[0])],[],[],ax_,[.tmp 6]⟩
def b9_:=fF b9_.cx f245
theorem kh_:as_ b9_.cx f245 (k+1) [nL x n 1,i,j] H Q=cf 0 (nI n) (dk 0 j (leI 0 i) (chk (leN (tN i) (tN j)&&(leN (tN j) (tN (nI n))&&(leN (tN (nI n)) n&&nc_ H x (tN (nI n)*1)))) (bh i j (dz Q x n 1 H) (cf 0 i (eJ (leN 0 (tN i)&&(leN (tN i) n||kf_ H x (tN i*1))) (dk 0 j (leN (tN j) n) (aN (cU H (shf x (tN j*1)) ((n-tN j)*1) H 3 1 8 (shf x 0) (tN i-0) (n-tN j) (λa b c=>cf 0 (nI n) (dk 0 (nI b) (leN (tN (nI b)) (tN (nI n))&&(leN (tN (nI n)) b||kf_ c a (tN (nI n)*1))) (aN (clr c (shf a (tN (nI b)*1)) (tN (nI n)-tN (nI b)) [.int .i64 0] (λc=>dz Q a b 1 c))))))))))))):=zz
theorem ke_:am_ prog 245 (b9_):=sO eN nO func245
def hB_.cx:Cx:=⟨tys,[],[],[],[(227,eW_)],ax_,[.cell 4 100,.tmp 5,.cell 6 100]⟩
def hB_:=fF hB_.cx f247
theorem Ag_:as_ hB_.cx f247 (k+1) [.agg [b,c,.sl x n 1,.sl y m 1,.sl z l 1],i] H Q=bC (leI 0 i&&ltI i (nI n)) x H (tN i*1) λa d e=>bc eW_ [.agg [b,c,.sl x n 1,.sl y m 1,.sl z l 1]] H λf g=>ct g 1 1 1 λg h j o p q r s=>ah f a (d+tN i*1) λt=>eqv e t (bc eW_ [.agg [b,c,.sl x n 1,.sl y m 1,.sl z l 1]] f (λb f=>ct f 1 1 1 λf l m n t u v w=>ah b a (d+tN i*1) λa=>eqv e a (cf 0 i (chk (leN 0 (tN i)&&(leN (tN i) o||kf_ b j (tN i*1))) (bW_ c (cf 0 i (eJ (leN 0 (tN i)&&(leN (tN i) q||kf_ b p (tN i*1))) (dk 0 i (leN (tN i) n) (cf 0 i (chk (leN (tN i) u) (ax Q [.a [g,h,.sl (shf j 0) (tN i-0) 1,.sl (shf p 0) (tN i-0) 1,.sl r s 1],e,.a [f,l,.sl (shf m (tN i*1)) (n-tN i) 1,.sl (shf t (tN i*1)) (u-tN i) 1,.sl v w 1]] b)))))) (cf 0 (ab_ .i64 (i+1)) (eJ (leN 0 (tN (ab_ .i64 (i+1)))&&(leN (tN (ab_ .i64 (i+1))) s||kf_ b r (tN (ab_ .i64 (i+1))*1))) (dk 0 (ab_ .i64 (i+1)) (leN (tN (ab_ .i64 (i+1))) n) (cf 0 (ab_ .i64 (i+1)) (chk (leN (tN (ab_ .i64 (i+1))) w) (ax Q [.a [g,h,.sl (shf j 0) (tN i-0) 1,.sl p q 1,.sl (shf r 0) (tN (ab_ .i64 (i+1))-0) 1],e,.a [f,l,.sl (shf m (tN (ab_ .i64 (i+1))*1)) (n-tN (ab_ .i64 (i+1))) 1,.sl t u 1,.sl (shf v (tN (ab_ .i64 (i+1))*1)) (w-tN (ab_ .i64 (i+1))) 1]] b))))))))))):=zz
theorem tD_:am_ prog 247 (hB_):=sO (eZ lP_ func227 eN) nO func247
def dr_.cx:Cx:=⟨tys,[],[],[],[(244,h5_),(228,aQ_),(245,b9_),(246,dg_),(247,hB_)],ax_,[]⟩
def dr_:=fF dr_.cx f229
theorem nW_:as_ dr_.cx f229 (k+1) [x,y,i] H Q=pS y λa b=>dl H a (b+4) 1 0 i i H (tN i*1) λa=>pS y λb c=>dl H b (c+4) 1 0 (ab_ .i64 (i+1)) (ab_ .i64 (i+1)) H (tN (ab_ .i64 (i+1))*1) λb=>cD x H 5 0 a a λc d=>aF H c (d+tN a*5) λe=>aF H c (d+tN a*5+1) λf=>bn H c (d+tN a*5+1+1) 1 H c (d+tN a*5+1+1+1) 1 λg h j l=>dH H c (d+tN a*5+1+1+1+1) λc d=>ew y H 1 0 i i λm n=>ah H m (n+tN i*1) λm=>cD x H 5 0 b b λn o=>aF H n (o+tN b*5) λp=>aF H n (o+tN b*5+1) λq=>bn H n (o+tN b*5+1+1) 1 H n (o+tN b*5+1+1+1) 1 λr s t u=>dH H n (o+tN b*5+1+1+1+1) λn o=>bg h5_ [.agg [e,f,.sl g h 1,.sl j l 1,.sl c d 1],m,.agg [p,q,.sl r s 1,.sl t u 1,.sl n o 1]] H λc d e=>ct e 1 1 1 λe f g h j l m n=>bj d λd=>bh d 0 (bw x c 5 (λd o=>bw x c 5 λp q=>bH (leI 0 a&&ltI a (nI o)) d c (tN a*5) e (tN a*5) f (tN a*5) (.sl g h 1) (tN a*5) (.sl j l 1) (tN a*5) (.sl m n 1) λa=>bH (leI 0 b&&ltI b (nI q)) p a (tN b*5) false (tN b*5) false (tN b*5) (.sl none 0 1) (tN b*5) (.sl none 0 1) (tN b*5) (.sl none 0 1) λa=>cI y a 1 λb c=>pS y λd e=>dH a d (e+4) λf g=>aC aQ_ [nL b c 1,i,ab_ .i64 (i+1)] a 1 λa b c=>cz a d (e+4) 1 (nL f g 1) (aC b9_ [nL f g 1,ab_ .i64 (i+1),ab_ .i64 (i+2)] a 1 (λa d e=>pS y λf g=>dq a f (g+2) b c 1 λa=>pS y λb c=>bt a b (c+4) (.sl d e 1) Q [])))) (cD x c 5 0 a a (λd e=>aF c d (e+tN a*5) λf=>aF c d (e+tN a*5+1) λg=>bn c d (e+tN a*5+1+1) 1 c d (e+tN a*5+1+1+1) 1 λh j l m=>dH c d (e+tN a*5+1+1+1+1) λd e=>ew y c 1 0 i i λn o=>ah c n (o+tN i*1) λn=>cD x c 5 0 b b λo p=>aF c o (p+tN b*5) λq=>aF c o (p+tN b*5+1) λr=>bn c o (p+tN b*5+1+1) 1 c o (p+tN b*5+1+1+1) 1 λs t u v=>dH c o (p+tN b*5+1+1+1+1) λo p=>bc dg_ [.agg [f,g,.sl h j 1,.sl l m 1,.sl d e 1],n,.agg [q,r,.sl s t 1,.sl u v 1,.sl o p 1]] c λc d=>ct d 1 1 1 λd e f g h j l m=>dn x c 5 λn o p q=>pS y λr s=>dH c r (s+2) λt u=>dn x c 5 λv w x y=>bg hB_ [.agg [d,e,.sl f g 1,.sl h j 1,.sl l m 1],ab_ .i64 (Int.tdiv (nI g) 2)] c λc d e=>ct e 1 1 1 λe f g h j l m z=>af d λd A=>dS A λA=>ba d λd C=>ct C 1 1 1 λC D F G I J L M=>uE d (bL c v (w+0) 5 (nL x y 5) (cz c r (s+2) 1 (nL t u 1) (bL c n (o+0) 5 (nL p q 5) (bH (leI 0 a&&ltI a (nI q)) p c (tN a*5) e (tN a*5) f (tN a*5) (.sl g h 1) (tN a*5) (.sl j l 1) (tN a*5) (.sl m z 1) (λa=>aB (leI 0 i&&ltI i (nI u)) t λc d=>wr a c (d+tN i*1) A λa=>bG (leI 0 b&&ltI b (nI y)) x a (tN b*5) C (tN b*5) D (tN b*5) (.sl F G 1) (tN b*5) (.sl I J 1) λa c d=>bt d a (c+tN b*5+1+1+1+1) (.sl L M 1) Q []))))))):=zz
theorem m9_:am_ prog 229 (dr_):=sO (eZ zg_ func244 (eZ fm_ func228 (eZ ke_ func245 (eZ q2_ func246 (eZ tD_ func247 eN))))) nO func229
def a0_.cx S:=(⟨tys,[],[],[],[(226,cv_),(228,aQ_),(225,gh_),(196,S),(229,dr_)],ax_,[]⟩:Cx)
def a0_.st S:=fF (a0_.cx S) f196
theorem m3_:as_ (a0_.cx F) f196 (k+1) [x,i,s] H Q=cD x H 5 0 i i λa b=>db H a (b+tN i*5+1) (dH H a (b+tN i*5+2) (λc d=>bz cv_ [nL c d 1,s] H λc d e=>aT d λd _=>uE d (bn c a (b+tN i*5+2) 1 c a (b+tN i*5+3) 1 (λd f g h=>aC aQ_ [nL d f 1,e,ab_ .i64 (e+1)] c 1 λc d f=>cz c a (b+tN i*5+3) 1 (nL g h 1) (aC aQ_ [nL g h 1,e,ab_ .i64 (e+1)] c 1 (λc e g=>aE c a (b+tN i*5+2) (.sl d f 1) a (b+tN i*5+3) (.sl e g 1) λa=>ax Q [] a)))))) (aG gh_ [.g (.ptr (some (a,b+tN i*5))),s] H (λc d=>dl c a (b+tN i*5+4) 1 0 d d c (tN d*1) λe=>cl F [x,e,s] c λ_ c=>bw x c 5 λe f=>dl c a (b+tN i*5+4) 1 0 d d c (tN d*1) λg=>aB (leI 0 g&&ltI g (nI f)) e λe f=>dH c e (f+tN g*5+2) λ_ e=>av (nI e) 2 (dH c a (b+tN i*5+2) (λ_ e=>dG dr_ [x,.g (.ptr (some (a,b+tN i*5))),mnI d (ab_ .i64 (nI e-1))] c Q [])) (ax Q [] c))):=zz
theorem a0_.st_ok(S:Sm)(hS:c4_ prog 196 S):am_ prog 196 (a0_.st S):=ly_.sound (cx:=a0_.cx S) rfl (eZ jm_ func226 (eZ fm_ func228 (eZ nf_ func225 (dG_.cons hS (eZ m9_ func229 eN))))) nO func196 rfl
def a0_.at:Nat->Sm
 |0=>λ_ _ _=>False
 |n+1=>a0_.st (a0_.at n)
def a0_:Sm:=λxs H Q=>∃n,a0_.at n xs H Q
theorem a0_.at_ok:∀n,am_ prog 196 (a0_.at n)
 |0=>λ_ _ _ h=>h.elim
 |n+1=>a0_.st_ok _ ((a0_.at_ok n).c ⟨_,func196,by kernel_rfl,by kernel_rfl⟩)
theorem od_:am_ prog 196 (a0_):=am_.ex (a0_.at_ok)
def ds_.cx:Cx:=⟨tys,[],[],[],[],ax_,[]⟩
def ds_:=fF ds_.cx f197
theorem oe_:as_ ds_.cx f197 (k+1) [x] H Q=bw x H 5 λa b=>bP (leI 0 0&&ltI 0 (nI b)) a H (tN 0*5) λa b _=>aF H a (b+tN 0*5+1) λc=>dH H a (b+tN 0*5+1+1) λ_ d=>dH H a (b+tN 0*5+1+1+1) λ_ _=>dH H a (b+tN 0*5+1+1+1+1) λa b=>aL c (eF d 0 (bw x H 5 (λc d=>bw x H 5 λe f=>aJ (leI 0 0&&ltI 0 (nI b)) a H (tN 0*1) λg=>bw x H 5 λh i=>aJ (leI 0 0&&ltI 0 (nI b)) a H (tN 0*1) λa=>cJ (leI 0 a&&ltI a (nI i)) h H (tN a*5) H (tN a*5) H (tN a*5) 1 H (tN a*5) 1 H (tN a*5) 1 (leI 0 0&&ltI 0 (nI d)) c H (tN 0*5) (tN 0*5) (tN 0*5) (tN 0*5) (tN 0*5) λa=>bG (leI 0 g&&ltI g (nI f)) e a (tN g*5) false (tN g*5) false (tN g*5) (.sl none 0 1) (tN g*5) (.sl none 0 1) λa b c=>bt c a (b+tN g*5+1+1+1+1) (.sl none 0 1) Q [])) (ax Q [] H)) (ax Q [] H):=zz
theorem of_:am_ prog 197 (ds_):=sO eN nO func197
def cP_.cx:Cx:=⟨tys,[25],[],[(8,[4,8,10,25])],[(194,dj_),(195,cy_),(196,a0_),(197,ds_)],ax_,[.cell 4 24,.tmp 5,.tmp 6]⟩
def cP_:=fF cP_.cx f160
def cP_.l8 k a b c d e f g:=aV_ (cP_.cx) f160 8 k (B 4 (.bx [.sl a b 5]::B 3 (gB c::.bad::.g (.ptr (some (d,e)))::B 14 (.g (.ptr (some (f,g)))::B 12 []))))
theorem wF_:as_ cP_.cx f160 (k+1) [.agg [.sl x n 5],s] H Q=bI dj_ [.agg [.sl x n 5],s] H λa b _=>aT b λb c=>bj b λb=>cp b 0 Q [.a [.sl none 0 5],false,nN 1300] a (bJ cy_ [.agg [.sl x n 5]] a 5 (λa b d=>bW_ c (cl a0_ [.g (.ptr (some (ln a,0))),nN 0,s] (pu a (.row true 242 [.sl b d 5])) (λ_ b=>cl ds_ [.g (.ptr (some (ln a,0)))] b λ_ b=>cP_.l8 k none 0 c (ln a) 0 (ln a) 0 b Q)) (cP_.l8 k none 0 c (ln a) 0 (ln a) 0 (pu a (.row true 242 [.sl b d 5])) Q))):=zz
theorem cP_.l8_eq:cP_.l8 (k+1) x n b m l o N H Q=aa H m (l+0) 5 λa c=>ax Q [.a [.sl a c 5],b,nN 0] H:=zz
theorem vY_:am_ prog 160 (cP_):=sO (eZ rt_ func194 (eZ pn_ func195 (eZ od_ func196 (eZ of_ func197 eN)))) nO func160
def bh_.cx E:=(⟨tys,[1],[],[],[],E,[.tmp 2]⟩:Cx)
def bh_ E:=fF (bh_.cx E) f162
theorem fG_:as_ (bh_.cx E) f162 (k+1) [.g (.map a)] H Q=cM Q (.fn 200 [(ln H,0)]) (pu H (.row true 206 [.map a])):=zz
theorem fF_(E)(h:eE E):am_ prog 162 (bh_ E):=sO eN h func162
def bK_.cx:Cx:=⟨tys,[],[(3,[3,9,10,11])],[],[],ax_,[.tmp 2]⟩
def bK_:=fF bK_.cx f204
def bK_.l3 k a b c d e:=aV_ (bK_.cx) f204 3 k (B 3 (gI a::B 5 (nL b c 5::gI d::gI e::B 12 [])))
theorem q7_:as_ bK_.cx f204 (k+1) [x] H Q=bw x H 5 λa b=>bK_.l3 k 0 a b (nI b) 0 H Q:=zz
theorem bK_.l3_eq:bK_.l3 (k+1) i x n j h H Q=av h j (bP (leI 0 h&&ltI h (nI n)) x H (tN h*5) (λa b _=>aF H a (b+tN h*5+1) λc=>dH H a (b+tN h*5+1+1) λ_ d=>dH H a (b+tN h*5+1+1+1) λ_ _=>dH H a (b+tN h*5+1+1+1+1) λ_ _=>bW_ c (bK_.l3 k (ab_ .i64 (i+nI d)) x n j (ab_ .i64 (h+1)) H Q) (bK_.l3 k i x n j (ab_ .i64 (h+1)) H Q))) (Q i H):=zz
theorem qp_:am_ prog 204 (bK_):=sO eN nO func204
def eu_.cx:Cx:=⟨tys,[],[],[],[],ax_,[]⟩
def eu_:=fF eu_.cx f341
theorem i9_:as_ eu_.cx f341 (k+1) [x,.g (.iface 3 (.int .i64 i))] H Q=ca x H 1 λa b=>dX 3 (.iface 3 (.int .i64 i)) λc=>ai c λc=>dA H 3 1 8 a b [c] λa b c=>pS x λd e=>bt c d e (.sl a b 1) Q []:=zz
theorem oH_:am_ prog 341 (eu_):=sO eN nO func341
def c6_.cx:Cx:=⟨tys,[],[],[],[],ax_,[.tmp 2]⟩
def c6_:=fF c6_.cx f337
theorem jy_:am_ prog 337 (c6_):=sO eN nO func337
def cB_.cx:Cx:=⟨tys,[],[],[],[],ax_,[.tmp 6]⟩
def cB_:=fF cB_.cx f338
theorem oO_:as_ cB_.cx f338 (k+1) [nL x n 1,i,j] H Q=aJ (leI 0 i&&ltI i (nI n)) x H (tN i*1) λa=>aJ (leI 0 j&&ltI j (nI n)) x H (tN j*1) λb=>cN Q (ltI a b) H:=zz
theorem i5_:am_ prog 338 (cB_):=sO eN nO func338
def cn_.cx:Cx:=⟨tys,[],[],[],[],ax_,[]⟩
def cn_:=fF cn_.cx f339
theorem oP_:as_ cn_.cx f339 (k+1) [nL x n 1,i,j] H Q=aJ (leI 0 j&&ltI j (nI n)) x H (tN j*1) λa=>aJ (leI 0 i&&ltI i (nI n)) x H (tN i*1) λb=>aB (leI 0 i&&ltI i (nI n)) x λc d=>wr H c (d+tN i*1) a λa=>aB (leI 0 j&&ltI j (nI n)) x λc d=>bt a c (d+tN j*1) b Q []:=zz
theorem gY_:am_ prog 339 (cn_):=sO eN nO func339
def gb_.cx:Cx:=⟨tys,[],[(0,[0,1])],[],[(338,cB_),(339,cn_)],ax_,[]⟩
def gb_:=fF gb_.cx f234
def gb_.l0 k a b:=aV_ (gb_.cx) f234 0 k (.g (.iface 252 (.ptr a))::gI b::B 21 [])
theorem gb_.l0_eq:gb_.l0 (k+1) x i H Q=bh (ab_ .i64 (Int.tdiv (ab_ .i64 (i-1)) 2)) i (ax Q [] H) (ca x H 1 (λa b=>bq cB_ [nL a b 1,i,ab_ .i64 (Int.tdiv (ab_ .i64 (i-1)) 2)] H Q [] λa=>ca x a 1 λb c=>cl cn_ [nL b c 1,ab_ .i64 (Int.tdiv (ab_ .i64 (i-1)) 2),i] a λ_ a=>gb_.l0 k x (ab_ .i64 (Int.tdiv (ab_ .i64 (i-1)) 2)) a Q)):=zz
theorem Cz_:am_ prog 234 (gb_):=sO (eZ i5_ func338 (eZ gY_ func339 eN)) nO func234
def ie_.cx:Cx:=⟨tys,[],[],[],[(341,eu_),(337,c6_),(234,gb_)],ax_,[]⟩
def ie_:=fF ie_.cx f205
theorem y9_:as_ ie_.cx f205 (k+1) [.g (.iface 252 (.ptr x)),.g (.iface 3 (.int .i64 i))] H Q=cl eu_ [x,.g (.iface 3 (.int .i64 i))] H λ_ a=>ca x a 1 λb c=>aG c6_ [nL b c 1] a λa b=>dG gb_ [.g (.iface 252 (.ptr x)),ab_ .i64 (b-1)] a Q []:=zz
theorem zS_:am_ prog 205 (ie_):=sO (eZ oH_ func341 (eZ jy_ func337 (eZ Cz_ func234 eN))) nO func205
def c9_.cx:Cx:=⟨tys,[],[],[(6,[1,2,4,6])],[(283,hs_),(247,hB_)],ax_,[.cell 2 100,.tmp 3,.cell 4 100,.tmp 5]⟩
def c9_:=fF c9_.cx f265
def c9_.l6 k a b c d e f g h i j l m n o p q r s t u v w x y z:=aV_ (c9_.cx) f265 6 k (.bad::.bx [.bool a,.bool b,.sl c d 1,.sl e f 1,.sl g h 1]::.bx [.bool i,.bool j,.sl l m 1,.sl n o 1,.sl p q 1]::.bad::.bx [.bool r,.bool s,.sl t u 1,.sl v w 1,.sl x y 1]::.bad::gI z::B 26 [])
theorem xW_:as_ c9_.cx f265 (k+1) [.agg [b,c,.sl x n 1,.sl y m 1,.sl z l 1]] H Q=cp (nI n) 5 Q [.a [false,false,.sl none 0 1,.sl none 0 1,.sl none 0 1],mkS [],.a [false,false,.sl none 0 1,.sl none 0 1,.sl none 0 1],nN 900] H (bq hs_ [.agg [b,c,.sl x n 1,.sl y m 1,.sl z l 1]] H Q [.a [false,false,.sl none 0 1,.sl none 0 1,.sl none 0 1],mkS [],.a [false,false,.sl none 0 1,.sl none 0 1,.sl none 0 1],nN 900] (λa=>bW_ c (c9_.l6 k b c x n y m z l false false none 0 none 0 none 0 false false none 0 none 0 none 0 3 a Q) (c9_.l6 k b c x n y m z l false false none 0 none 0 none 0 false false none 0 none 0 none 0 2 a Q))):=zz
theorem c9_.l6_eq:c9_.l6 (k+1) b c x n y m z l C d u o w N X M b1 b2 Y L Z O U D i H Q=bg hB_ [.agg [b,c,.sl x n 1,.sl y m 1,.sl z l 1],i] H λa b c=>ct c 1 1 1 λc d e f g h i j=>af b λb l=>dS l λl=>ba b λb m=>ct m 1 1 1 λm n o p q r s t=>uE b (ax Q [.a [c,d,.sl e f 1,.sl g h 1,.sl i j 1],l,.a [m,n,.sl o p 1,.sl q r 1,.sl s t 1],nN 0] a):=zz
theorem xS_:am_ prog 265 (c9_):=sO (eZ rb_ func283 (eZ tD_ func247 eN)) nO func265
def cd_.cx:Cx:=⟨tys,[],[(2,[0,1,2,7])],[(8,[0,1,2,7,9])],[(338,cB_),(339,cn_)],ax_,[.tmp 6]⟩
def cd_:=fF cd_.cx f266
def cd_.l2 k a b c d:=aV_ (cd_.cx) f266 2 k (.g (.iface 252 (.ptr a))::gI b::gI c::B 4 (gI d::B 40 []))
def cd_.l8 k a b c d e:=aV_ (cd_.cx) f266 8 k (.g (.iface 252 (.ptr a))::gI b::gI c::B 4 (gI d::.bad::gI e::B 38 []))
theorem yS_:as_ cd_.cx f266 (k+1) [.g (.iface 252 (.ptr x)),i,j] H Q=cd_.l2 k x i j i H Q:=zz
theorem cd_.l2_eq:cd_.l2 (k+1) x i j h H Q=aY j (ab_ .i64 (ab_ .i64 (2*h)+1)) (cN Q (ltI i h) H) (av (ab_ .i64 (ab_ .i64 (2*h)+1)) 0 (cN Q (ltI i h) H) (av (ab_ .i64 (ab_ .i64 (ab_ .i64 (2*h)+1)+1)) j (ca x H 1 (λa b=>aZ cB_ [nL a b 1,ab_ .i64 (ab_ .i64 (ab_ .i64 (2*h)+1)+1),ab_ .i64 (ab_ .i64 (2*h)+1)] H λa b=>bW_ b (cd_.l8 k x i j h (ab_ .i64 (ab_ .i64 (ab_ .i64 (2*h)+1)+1)) a Q) (cd_.l8 k x i j h (ab_ .i64 (ab_ .i64 (2*h)+1)) a Q))) (cd_.l8 k x i j h (ab_ .i64 (ab_ .i64 (2*h)+1)) H Q))):=zz
theorem cd_.l8_eq:cd_.l8 (k+1) x i j h g H Q=ca x H 1 λa b=>ac cB_ [nL a b 1,g,h] H λa b=>aj b (cN Q (ltI i h) a) (ca x a 1 (λb c=>cl cn_ [nL b c 1,h,g] a λ_ a=>cd_.l2 k x i j g a Q)):=zz
theorem zn_:am_ prog 266 (cd_):=sO (eZ i5_ func338 (eZ gY_ func339 eN)) nO func266
def ee_.cx:Cx:=⟨tys,[],[],[],[],ax_,[.tmp 2]⟩
def ee_:=fF ee_.cx f340
theorem p9_:as_ ee_.cx f340 (k+1) [x] H Q=ca x H 1 λ_ a=>pS x λb c=>dl H b c 1 0 (ab_ .i64 (nI a-1)) (ab_ .i64 (nI a-1)) H (tN (ab_ .i64 (nI a-1))*1) λb=>ca x H 1 λc d=>cf 0 (ab_ .i64 (nI a-1)) (chk (leN 0 (tN (ab_ .i64 (nI a-1)))&&(leN (tN (ab_ .i64 (nI a-1))) d||kf_ H c (tN (ab_ .i64 (nI a-1))*1))) (pS x (λd e=>dq H d e (shf c 0) (tN (ab_ .i64 (nI a-1))-0) 1 λa=>cM Q (.iface 3 (.int .i64 b)) a))):=zz
theorem pJ_:am_ prog 340 (ee_):=sO eN nO func340
def iP_.cx:Cx:=⟨tys,[],[],[],[(337,c6_),(339,cn_),(266,cd_),(340,ee_)],ax_,[.tmp 2]⟩
def iP_:=fF iP_.cx f239
theorem AE_:as_ iP_.cx f239 (k+1) [.g (.iface 252 (.ptr x))] H Q=ca x H 1 λa b=>aG c6_ [nL a b 1] H λa b=>ca x a 1 λc d=>cl cn_ [nL c d 1,nN 0,ab_ .i64 (b-1)] a λ_ a=>aZ cd_ [.g (.iface 252 (.ptr x)),nN 0,ab_ .i64 (b-1)] a λa _=>ac ee_ [x] a λa b=>Q b a:=zz
theorem A5_:am_ prog 239 (iP_):=sO (eZ jy_ func337 (eZ gY_ func339 (eZ zn_ func266 (eZ pJ_ func340 eN)))) nO func239
def cb_.cx:Cx:=⟨tys,[],[],[],[(239,iP_)],ax_,[.tmp 4]⟩
def cb_:=fF cb_.cx f207
theorem mN_:as_ cb_.cx f207 (k+1) [x,.agg [b,c,.sl y n 1,.sl z m 1,.sl u l 1]] H Q=pS x λa d=>ac iP_ [.g (.iface 252 (.ptr (some (a,d+1))))] H λa d=>dX 3 d λd=>ai d λd=>cD x a 5 0 d d λe f=>aE a e (f+tN d*5) b e (f+tN d*5+1) c λa=>aE a e (f+tN d*5+1+1) (.sl y n 1) e (f+tN d*5+1+1+1) (.sl z m 1) λa=>dq a e (f+tN d*5+1+1+1+1) u l 1 λa=>Q d a:=zz
theorem h1_:am_ prog 207 (cb_):=sO (eZ A5_ func239 eN) nO func207
def bO_.cx:Cx:=⟨tys,[36],[],[],[(265,c9_),(207,cb_)],ax_,[.tmp 4]⟩
def bO_:=fF bO_.cx f238
theorem ld_:as_ bO_.cx f238 (k+1) [x,i] H Q=cD x H 5 0 i i λa b=>aF H a (b+tN i*5) λc=>aF H a (b+tN i*5+1) λd=>bn H a (b+tN i*5+1+1) 1 H a (b+tN i*5+1+1+1) 1 λe f g h=>dH H a (b+tN i*5+1+1+1+1) λa b=>bg c9_ [.agg [c,d,.sl e f 1,.sl g h 1,.sl a b 1]] H λa b c=>ct c 1 1 1 λc d e f g h j l=>af b λb m=>dS m λm=>ba b λb n=>ct n 1 1 1 λn o p q r s t u=>bj b λb=>bf b 0 (cM Q (.ptr none) a) (cD x a 5 0 i i (λb v=>aE a b (v+tN i*5) c b (v+tN i*5+1) d λa=>aE a b (v+tN i*5+1+1) (.sl e f 1) b (v+tN i*5+1+1+1) (.sl g h 1) λa=>dq a b (v+tN i*5+1+1+1+1) j l 1 λa=>aG cb_ [x,.agg [n,o,.sl p q 1,.sl r s 1,.sl t u 1]] a λa b=>cM Q (.ptr (some (ln a,0))) (pu a (.row true 257 [m,b])))):=zz
theorem hx_:am_ prog 238 (bO_):=sO (eZ xS_ func265 (eZ h1_ func207 eN)) nO func238
def dc_.cx:Cx:=⟨tys,[],[],[],[(226,cv_),(236,slices_Insert__string_string),(238,bO_)],ax_,[.tmp 8]⟩
def dc_:=fF dc_.cx f235
theorem mM_:as_ dc_.cx f235 (k+1) [x,i,s,t] H Q=cD x H 5 0 i i λa b=>dH H a (b+tN i*5+2) λc d=>cd cv_ [nL c d 1,s] H λc d e=>bW_ e (cP c a (b+tN i*5+3) 1 0 d d (λa b=>wr c a (b+tN d*1) t λa=>cM Q (.ptr none) a)) (bn c a (b+tN i*5+2) 1 c a (b+tN i*5+3) 1 (λe f g h=>aC slices_Insert__string_string [nL e f 1,d,nL (some (ln c,0)) 1 1] (pu c (.row false 1000003 [s])) 1 λc e f=>cz c a (b+tN i*5+3) 1 (nL g h 1) (aC slices_Insert__string_string [nL g h 1,d,nL (some (ln c,0)) 1 1] (pu c (.row false 1000003 [t])) 1 (λc d g=>aE c a (b+tN i*5+2) (.sl e f 1) a (b+tN i*5+3) (.sl d g 1) λa=>ac bO_ [x,i] a λa b=>dP b λb=>Q b a)))):=zz
theorem mY_:am_ prog 235 (dc_):=sO (eZ jm_ func226 (dG_.cons (fn_) (eZ hx_ func238 eN))) nO func235
def a1_.cx S:=(⟨tys,[],[],[],[(235,dc_),(225,gh_),(206,S),(236,slices_Insert__string_string),(237,slices_Insert__int_int),(238,bO_)],ax_,[.tmp 8]⟩:Cx)
def a1_.st S:=fF (a1_.cx S) f206
theorem n6_:as_ (a1_.cx F) f206 (k+1) [x,i,s,t] H Q=cD x H 5 0 i i λa b=>db H a (b+tN i*5+1) (ac dc_ [x,i,s,t] H (λa b=>dP b λb=>Q b a)) (aG gh_ [.g (.ptr (some (a,b+tN i*5))),s] H (λc d=>dl c a (b+tN i*5+4) 1 0 d d c (tN d*1) λe=>ac F [x,e,s,t] c λc e=>dP e λe=>bW_ (isNone e) (cM Q (.ptr none) c) (dH c a (b+tN i*5+2) (λf g=>pS e λh j=>ah c h (j+0) λh=>dH c a (b+tN i*5+4) λj l=>pS e λe m=>aq c e (m+1) λn=>aC slices_Insert__string_string [nL f g 1,d,nL (some (ln c,0)) 1 1] (pu c (.row false 1000003 [h])) 1 λc f g=>aq c e (m+1) λe=>eqv n e (cz c a (b+tN i*5+4) 1 (nL j l 1) (aC slices_Insert__int_int [nL j l 1,ab_ .i64 (d+1),nL (some (ln c,0)) 1 1] (pu c (.row false 1000003 [n])) 1 (λc d e=>aE c a (b+tN i*5+2) (.sl f g 1) a (b+tN i*5+4) (.sl d e 1) λa=>ac bO_ [x,i] a λa b=>dP b λb=>Q b a))))))):=zz
theorem a1_.st_ok(S:Sm)(hS:c4_ prog 206 S):am_ prog 206 (a1_.st S):=ly_.sound (cx:=a1_.cx S) rfl (eZ mY_ func235 (eZ nf_ func225 (dG_.cons hS (dG_.cons (fn_) (dG_.cons (ka_) (eZ hx_ func238 eN)))))) nO func206 rfl
def a1_.at:Nat->Sm
 |0=>λ_ _ _=>False
 |n+1=>a1_.st (a1_.at n)
def a1_:Sm:=λxs H Q=>∃n,a1_.at n xs H Q
theorem a1_.at_ok:∀n,am_ prog 206 (a1_.at n)
 |0=>λ_ _ _ h=>h.elim
 |n+1=>a1_.st_ok _ ((a1_.at_ok n).c ⟨_,func206,by kernel_rfl,by kernel_rfl⟩)
theorem ne_:am_ prog 206 (a1_):=am_.ex (a1_.at_ok)
def bq_.cx:Cx:=⟨tys,[3,48,92,98],[(8,[1,2,6,11,48,52,53,54])],[],[(201,dW_),(202,df_),(203,cj_),(194,dj_),(204,bK_),(195,cy_),(205,ie_),(206,a1_),(207,cb_)],ax_,[.cell 6 24,.tmp 7]⟩
def bq_:=fF bq_.cx f163
def bq_.l8 k a b c d e f g h i j l m:=aV_ (bq_.cx) f163 8 k (.bad::gS a::gS b::B 3 (.bx [.sl c d 5]::B 4 (.g (.ptr (some (e,f)))::B 36 (.g (.ptr (some (g,h)))::B 3 (nL i j 5::gI l::gI m::B 51 [])))))
theorem tb_:as_ bq_.cx f163 (k+1) [.agg [.sl x n 5],s,t] H Q=aa (pu H (.row true 24 [.sl x n 5])) (ln H) 0 5 λa b=>dN dW_ [.agg [.sl a b 5]] (pu H (.row true 24 [.sl x n 5])) Q [.a [.sl none 0 5],nN 1200] df_ [s] Q λa=>bq cj_ [t] a Q [.a [.sl none 0 5],nN 1200] λa=>aa a (ln H) 0 5 λb c=>bI dj_ [.agg [.sl b c 5],s] a λa b _=>aT b λb c=>aW b (aL c (aG bK_ [.g (.ptr (some (ln H,0)))] a (λa b=>dQ 60 b Q [.a [.sl none 0 5],nN 1201] a (aa a (ln H) 0 5 (λb c=>bJ cy_ [.agg [.sl b c 5]] a 5 λa b c=>aa (pu a (.row true 250 [.sl b c 5,.sl none 0 1])) (ln a) 0 5 λd e=>bq_.l8 k s t none 0 (ln a) 0 (ln a) 0 d e (nI e) 0 (pu a (.row true 250 [.sl b c 5,.sl none 0 1])) Q)))) (aa a (ln H) 0 5 (λb c=>bJ cy_ [.agg [.sl b c 5]] a 5 λa b c=>aa (pu a (.row true 250 [.sl b c 5,.sl none 0 1])) (ln a) 0 5 λd e=>bq_.l8 k s t none 0 (ln a) 0 (ln a) 0 d e (nI e) 0 (pu a (.row true 250 [.sl b c 5,.sl none 0 1])) Q))):=zz
theorem bq_.l8_eq:bq_.l8 (k+1) s t x n m l o N y M i j H Q=av j i (bQ (leI 0 j&&ltI j (nI M)) y H (tN j*5) H (tN j*5) (λa b c _=>dH H a (b+tN j*5+1+1) λ_ _=>dH H a (b+tN j*5+1+1+1) λ_ _=>dH H a (b+tN j*5+1+1+1+1) λ_ _=>aL c (cl ie_ [.g (.iface 252 (.ptr (some (m,l+1)))),.g (.iface 3 (.int .i64 j))] H (λ_ a=>bq_.l8 k s t x n m l o N y M i (ab_ .i64 (j+1)) a Q)) (bq_.l8 k s t x n m l o N y M i (ab_ .i64 (j+1)) H Q))) (ac a1_ [.g (.ptr (some (m,l))),nN 0,s,t] H (λa b=>dP b λb=>aL (isNone b) (aa a m (l+0) 5 (λc d=>bT (leI 0 0&&ltI 0 (nI d)) c a (tN 0*5) a (tN 0*5) a (tN 0*5) 1 a (tN 0*5) 1 a (tN 0*5) 1 λc d e f g h i j=>aG cb_ [.g (.ptr (some (m,l))),.agg [c,d,.sl e f 1,.sl g h 1,.sl i j 1]] a λa c=>aa a m (l+0) 5 λd e=>pS b λf g=>ah a f (g+0) λh=>pS b λb i=>aq a b (i+1) λj=>H9_ (aq (pu a (.row true 9 [h])) b (i+1) (λb=>eqv j b (bL (pu a (.row true 9 [h])) m (l+0) 5 (nL d e 5) (ah (pu (pu a (.row true 9 [h])) (.row true 3 [c,j])) f (g+0) (λb=>eqv h b (bL (pu (pu a (.row true 9 [h])) (.row true 3 [c,j])) m (l+0) 5 (nL d e 5) (bH (leI 0 0&&ltI 0 (nI e)) d (pu (pu a (.row true 9 [h])) (.row true 3 [c,j])) (tN 0*5) true (tN 0*5) false (tN 0*5) (.sl (some (ln a,0)) 1 1) (tN 0*5) (.sl none 0 1) (tN 0*5) (.sl (some (ln (pu a (.row true 9 [.str h])),0)) 2 1) (λa=>dR a m (l+0) 5 Q (nN 0) a)))))))) (ah (pu a (.row true 3 [c,j])) f (g+0) (λf=>eqv h f (bL (pu a (.row true 3 [c,j])) m (l+0) 5 (nL d e 5) (aq (pu (pu a (.row true 3 [c,j])) (.row true 9 [h])) b (i+1) (λb=>eqv j b (bL (pu (pu a (.row true 3 [c,j])) (.row true 9 [h])) m (l+0) 5 (nL d e 5) (bH (leI 0 0&&ltI 0 (nI e)) d (pu (pu a (.row true 3 [c,j])) (.row true 9 [h])) (tN 0*5) true (tN 0*5) false (tN 0*5) (.sl (some (ln (pu a (.row true 3 [.int .i64 c,.int .i64 j])),0)) 1 1) (tN 0*5) (.sl none 0 1) (tN 0*5) (.sl (some (ln a,0)) 2 1) (λa=>dR a m (l+0) 5 Q (nN 0) a)))))))))) (dR a m (l+0) 5 Q (nN 0) a))):=zz
theorem si_:am_ prog 163 (bq_):=sO (eZ jE_ func201 (eZ kC_ func202 (eZ iq_ func203 (eZ rt_ func194 (eZ qp_ func204 (eZ pn_ func195 (eZ zS_ func205 (eZ ne_ func206 (eZ h1_ func207 eN))))))))) nO func163
def aK_.cx E:=(⟨tys,[],[(5,[2,3,4,7,28,29,30]),(13,[2,3,4,7,59,60,61])],[],[(159,ao_),(130,hL_),(160,cP_),(162,(bh_ E)),(161,slices_Sorted_string),(163,bq_)],E,[.cell 2 24]⟩:Cx)
def aK_ E:=fF (aK_.cx E) f115
def aK_.l5 E k a b c d e f g h i j:=aV_ (aK_.cx E) f115 5 k (.bad::.bad::.bx [.sl a b 5]::.bx [.sl c d 5]::gM e::.bad::.bad::gM f::B 20 (nL g h 2::gI i::gI j::B 60 []))
def aK_.l13 E k a b c d e f g h i j:=aV_ (aK_.cx E) f115 13 k (.bad::.bad::.bx [.sl a b 5]::.bx [.sl c d 5]::gM e::.bad::.bad::gM f::B 51 (nL g h 1::gI i::gI j::B 29 []))
theorem oL_:as_ (aK_.cx E) f115 (k+1) [x] H Q=dn x H 5 λa b c d=>ac ao_ [x] H λe f=>dM f λf=>aa e a (b+0) 5 λa b=>eqv (.agg [.sl c d 5]) (.agg [.sl a b 5]) (bV hL_ [.agg [.sl c d 5]] e 2 (λa b e g=>aW b (aK_.l5 E k none 0 c d f (some (ln a)) e g (nI g) 0 (pu a (.map [] 0)) Q))):=zz
theorem aK_.l5_eq:aK_.l5 E (k+1) x n y m a A z l i j H Q=av j i (bC (leI 0 j&&ltI j (nI l)) z H (tN j*2) (λb c d=>ah H b (c+tN j*2+1) λb=>dy H A [.str] d b λb=>cS b a [.str] d (mkS []) λc e=>dg c λ_=>aL e (bY cP_ [.agg [.sl y m 5],d] b 5 (λb c d e=>aT c λc _=>aW c (aK_.l5 E k x n d e a A z l i (ab_ .i64 (j+1)) b Q))) (aK_.l5 E k x n y m a A z l i (ab_ .i64 (j+1)) b Q))) (ac (bh_ E) [.g (.map a)] H (λb c=>aC slices_Sorted_string [c] b 1 λb c d=>aK_.l13 E k x n y m a A c d (nI d) 0 b Q)):=zz
theorem aK_.l13_eq:aK_.l13 E (k+1) x n y m a A z l i j H Q=av j i (aH (leI 0 j&&ltI j (nI l)) z H (tN j*1) (λb=>cS H A [.str] b (mkS []) λc d=>dg c λc=>aL d (cS H a [.str] b (mkS []) (λc _=>dg c λc=>dx bq_ [.agg [.sl y m 5],b,c] H 5 λb c d=>aK_.l13 E k x n c d a A z l i (ab_ .i64 (j+1)) b Q)) (cS H a [.str] b (mkS []) (λd _=>dg d λd=>dE c d (cS H a [.str] b (mkS []) (λc _=>dg c λc=>dx bq_ [.agg [.sl y m 5],b,c] H 5 λb c d=>aK_.l13 E k x n c d a A z l i (ab_ .i64 (j+1)) b Q)) (aK_.l13 E k x n y m a A z l i (ab_ .i64 (j+1)) H Q))))) (eg Q [.sl y m 5] H):=zz
theorem oQ_(E)(h:eE E):am_ prog 115 (aK_ E):=sO (eZ lM_ func159 (eZ tx_ func130 (eZ vY_ func160 (eZ (fF_ E h) func162 (dG_.cons (fw_) (eZ si_ func163 eN)))))) h func115
def fK_.cx E:=(⟨tys,[],[],[],[(78,(dF_ E)),(113,dJ_),(114,bu_),(115,(aK_ E))],E,[.cell 6 24,.tmp 7]⟩:Cx)
def fK_ E:=fF (fK_.cx E) f58
theorem xH_:as_ (fK_.cx E) f58 (k+1) [.agg [.sl x n 5],.g (.fn m p),.g (.fn l q)] H Q=dj (dF_ E) [.agg [.sl x n 5]] H λa b c=>d8 b (ax Q [.a [.sl none 0 5],nN 2000] a) (co c a 5 (λb d=>aG (E m) (cpl [.g (.sl b d 5)] p) a λa b=>cp b 0 Q [.a [.sl none 0 5],b] a (cl (E l) (cpl [.g (.ptr c)] q) a (λ_ a=>aG dJ_ [c] a λa b=>av 60 b (dj (dF_ E) [.agg [.sl x n 5]] a (λa b c=>aT b λb _=>uE b (cl bu_ [c] a (λ_ a=>cl (E l) (cpl [.g (.ptr c)] q) a λ_ a=>bK (aK_ E) [c] a 5 Q (nN 0))))) (bK (aK_ E) [c] a 5 Q (nN 0)))))):=zz
theorem pm_(E)(h:eE E):am_ prog 58 (fK_ E):=sO (eZ (to_ E h) func78 (eZ oU_ func113 (eZ nu_ func114 (eZ (oQ_ E h) func115 eN)))) h func58
def bL_.cx:Cx:=⟨tys,[],[],[],[],ax_,[.tmp 2]⟩
def bL_:=fF bL_.cx f221
theorem hm_:as_ bL_.cx f221 (k+1) [nL x n 5] H Q=bW_ (isNone x) (dz Q none 0 5 H) (aN (dD H x (n*5) H 52 5 80 n (λa=>dz Q (some (ln H,0)) n 5 a))):=zz
theorem hg_:am_ prog 221 (bL_):=sO eN nO func221
def bA_.cx:Cx:=⟨tys,[],[],[],[],ax_,[.tmp 2]⟩
def bA_:=fF bA_.cx f137
theorem hd_:as_ bA_.cx f137 (k+1) [nL x n 3] H Q=bW_ (isNone x) (dz Q none 0 3 H) (aN (dD H x (n*3) H 108 3 40 n (λa=>dz Q (some (ln H,0)) n 3 a))):=zz
theorem hh_:am_ prog 137 (bA_):=sO eN nO func137
def cg_.cx:Cx:=⟨tys,[],[(3,[3,8,9])],[],[(221,bL_),(137,bA_)],ax_,[.tmp 2]⟩
def cg_:=fF cg_.cx f181
def cg_.l3 k a b c d:=aV_ (cg_.cx) f181 3 k (B 3 (nL a b 5::B 4 (gI c::gI d::B 14 [])))
theorem v7_:as_ cg_.cx f181 (k+1) [nL x n 5] H Q=aC bL_ [nL x n 5] H 5 λa b c=>cg_.l3 k b c (nI c) 0 a Q:=zz
theorem cg_.l3_eq:cg_.l3 (k+1) x n i j H Q=av j i (bU (leI 0 j&&ltI j (nI n)) x H (tN j*5) 3 (λa b=>aC bA_ [nL a b 3] H 3 λa b c=>aB (leI 0 j&&ltI j (nI n)) x λd e=>dq a d (e+tN j*5+4) b c 3 λa=>cg_.l3 k x n i (ab_ .i64 (j+1)) a Q)) (dz Q x n 5 H):=zz
theorem u3_:am_ prog 181 (cg_):=sO (eZ hg_ func221 (eZ hh_ func137 eN)) nO func181
def ch_.cx:Cx:=⟨tys,[],[(4,[0,11,12,13])],[],[(135,bv_),(103,cQ_),(181,cg_)],ax_,[.tmp 4,.tmp 5]⟩
def ch_:=fF ch_.cx f136
def ch_.l4 k a b c d e f:=aV_ (ch_.cx) f136 4 k (nL a b 5::B 10 (nL c d 1::gI e::gI f::B 9 []))
theorem uz_:as_ ch_.cx f136 (k+1) [nL x n 5,nL y m 1] H Q=bq bv_ [nL x n 5] H Q [.s (.sl none 0 5),nN 1900] λa=>ch_.l4 k x n y m (nI m) 0 a Q:=zz
theorem ch_.l4_eq:ch_.l4 (k+1) x n y m i j H Q=av j i (aH (leI 0 j&&ltI j (nI m)) y H (tN j*1) (λa=>bq cQ_ [a] H Q [.s (.sl none 0 5),nN 1901] λa=>ch_.l4 k x n y m i (ab_ .i64 (j+1)) a Q)) (aU cg_ [nL x n 5] H 5 Q (nN 0)):=zz
theorem uF_:am_ prog 136 (ch_):=sO (eZ pd_ func135 (eZ f1_ func103 (eZ u3_ func181 eN))) nO func136
def fP_.cx:Cx:=⟨tys,[],[],[],[(136,ch_),(104,fC_)],ax_,[.tmp 4,.tmp 5,.tmp 6]⟩
def fP_:=fF fP_.cx f142
theorem uD_:as_ fP_.cx f142 (k+1) [nL x n 5,nL y m 1] H Q=bV ch_ [nL x n 5,nL y m 1] H 5 λa b c d=>bj b λb=>cp b 0 Q [.s (.sl none 0 5),nN 0,b] a (aH (leI 0 0&&ltI 0 (nI m)) y a (tN 0*1) (λb=>cd fC_ [nL c d 5,b] a λa b e=>aL e (ax Q [.s (.sl none 0 5),nN 0,nN 1903] a) (ax Q [.s (.sl c d 5),b,nN 0] a))):=zz
theorem uE_:am_ prog 142 (fP_):=sO (eZ uF_ func136 (eZ l4_ func104 eN)) nO func142
def e0_.cx:Cx:=⟨tys,[],[],[],[(142,fP_),(49,dd_)],ax_,[.tmp 6,.tmp 7,.tmp 8]⟩
def e0_:=fF e0_.cx f110
theorem vk_:as_ e0_.cx f110 (k+1) [nL x n 5,s,t] H Q=bV fP_ [nL x n 5,nL (some (ln H,0)) 1 1] (pu H (.row false 1000003 [s])) 5 λa b c d=>ay b λb e=>bj b λb=>cp b 0 Q [.s (.sl none 0 5),.s (.ptr none),b] a (bZ (leI 0 e&&ltI e (nI d)) c a (tN e*5) (λb=>cp b 0 Q [.s (.sl none 0 5),.s (.ptr none),nN 1905] a (bq dd_ [t] a Q [.s (.sl none 0 5),.s (.ptr none),nN 1907] (λa=>aB (leI 0 e&&ltI e (nI d)) c λb f=>ax Q [.s (.sl c d 5),.s (.ptr (some (b,f+tN e*5))),nN 0] a)))):=zz
theorem ob_:am_ prog 110 (e0_):=sO (eZ uE_ func142 (eZ g1_ func49 eN)) nO func110
def b8_.cx:Cx:=⟨tys,[],[],[(11,[2,3,10,11,13])],[(110,e0_),(111,dp_),(50,cD_),(112,slices_Insert__api_File_api_File)],ax_,[.tmp 8,.tmp 9]⟩
def b8_:=fF b8_.cx f57
def b8_.l11 k a b c d e f:=aV_ (b8_.cx) f57 11 k (.bad::.bad::gS a::gS b::B 6 (nL c d 5::gP e::.bad::gI f::B 59 []))
theorem uw_:as_ b8_.cx f57 (k+1) [nL x n 5,s,t,r] H Q=bV e0_ [nL x n 5,s,t] H 5 λa b c d=>af b λb e=>dP e λe=>cO b 0 Q (.s (.sl none 0 5)) a (bq dp_ [r] a Q [.s (.sl none 0 5),nN 1909] (λa=>co e a 3 λb f=>cd cD_ [nL b f 3,t] a λa b f=>aL f (co e a 3 (λ_ g=>eF g 4 (ax Q [.s (.sl none 0 5),nN 1910] a) (aL f (co e a 3 (λf g=>aC slices_Insert__api_File_api_File [nL f g 3,b,nL (some (ln a,0)) 1 3] (pu a (.row false 1000003 [mkS [],mkS [],false])) 3 λa f g=>pS e λh i=>dq a h (i+4) f g 3 λa=>b8_.l11 k t r c d e b a Q)) (b8_.l11 k t r c d e b a Q)))) (aL f (co e a 3 (λf g=>aC slices_Insert__api_File_api_File [nL f g 3,b,nL (some (ln a,0)) 1 3] (pu a (.row false 1000003 [mkS [],mkS [],false])) 3 λa f g=>pS e λh i=>dq a h (i+4) f g 3 λa=>b8_.l11 k t r c d e b a Q)) (b8_.l11 k t r c d e b a Q)))):=zz
theorem b8_.l11_eq:b8_.l11 (k+1) s t x n y i H Q=pS y λa b=>cP H a (b+4) 3 0 i i λa b=>aE H a (b+tN i*3) s a (b+tN i*3+1) t λc=>bt c a (b+tN i*3+1+1) true Q [.s (.sl x n 5),nN 0]:=zz
theorem uh_:am_ prog 57 (b8_):=sO (eZ ob_ func110 (eZ ia_ func111 (eZ gI_ func50 (dG_.cons (et_) eN)))) nO func57
def ff_.cx:Cx:=⟨tys,[],[],[],[(57,b8_)],ax_,[.tmp 5]⟩
def ff_:=fF ff_.cx f56
theorem sn_:as_ ff_.cx f56 (k+1) [nL x n 5,.g (.ptr (some (m,l))),.g (.ptr (some (o,N))),.g (.ptr (some (M,L)))] H Q=cA H m l H o N λa b=>ah H M L λc=>bV b8_ [nL x n 5,a,b,c] H 5 λa b _ _=>bj b λb=>Q b a:=zz
theorem sm_:am_ prog 56 (ff_):=sO (eZ uh_ func57 eN) nO func56
def cR_.cx E:=(⟨tys,[],[(2,[0,3])],[],[],E,[.tmp 2]⟩:Cx)
def cR_ E:=fF (cR_.cx E) f139
def cR_.l2 E k a b c:=aV_ (cR_.cx E) f139 2 k (.g (.fn a b)::.bad::.bad::gI c::B 6 [])
theorem wn_:as_ (cR_.cx E) f139 (k+1) [.g (.fn n p)] H Q=cR_.l2 E k n p 1 H Q:=zz
theorem cR_.l2_eq:cR_.l2 E (k+1) n p i H Q=aZ (E n) (cpl [.g (.int .i64 i)] p) H λa b=>bW_ b (cR_.l2 E k n p (ab_ .i64 (i+1)) a Q) (Q i a):=zz
theorem xa_(E)(h:eE E):am_ prog 139 (cR_ E):=sO eN h func139
def cT_.cx:Cx:=⟨tys,[],[],[],[],ax_,[.tmp 3]⟩
def cT_:=fF cT_.cx f164
theorem kY_:as_ cT_.cx f164 (k+1) [i,.g (.ptr (some (n,m)))] H Q=rd H n m λa=>dP a λa=>bv a H λa=>cS H a [.int .i64] i (.a [nN 0,mkS []]) λa b=>bk a λa _=>cQ a (Q b H):=zz
theorem k0_:am_ prog 164 (cT_):=sO eN nO func164
def de_.cx:Cx:=⟨tys,[1],[],[],[(139,(cR_ (cM_ [(164,cT_)])))],ax_,[.tmp 2]⟩
def de_:=fF de_.cx f117
theorem mG_:as_ de_.cx f117 (k+1) [x] H Q=aG (cR_ (cM_ [(164,cT_)])) [.g (.fn 164 [(ln H,0)])] (pu H (.row true 115 [x])) λa b=>Q b a:=zz
theorem mT_:am_ prog 117 (de_):=sO (dG_.cons ((xa_ (cM_ [(164,cT_)]) (gn_ (eZ k0_ func164 eN))).c ⟨_,func139,by kernel_rfl,by kernel_rfl⟩) eN) nO func117
def dP_.cx:Cx:=⟨tys,[],[],[],[],ax_,[]⟩
def dP_:=fF dP_.cx f84
theorem oR_:as_ dP_.cx f84 (k+1) [x,.agg [i,s],.agg [j,b]] H Q=bv x H λa=>dJ H a [.int .i64] j (.a [nN 0,mkS []]) λa c=>cL a λa=>bv x H λd=>bM x H λe=>Ct_ H d false [.int .i64] j (.a [nN 0,mkS []]) λf g h=>bk f λf _=>cQ f (BE_ h d (nI g) (.a [ab_ .i64 (c+1),a]) (λa=>Ct_ a e true [.int .i64,.str] (.a [i,s]) (.a [nN 0,false]) λa c d=>bk a λa _=>dZ a (BE_ d e (nI c) (.a [j,b]) (λa=>ax Q [] a)))):=zz
theorem oK_:am_ prog 84 (dP_):=sO eN nO func84
def bp_.cx:Cx:=⟨tys,[],[],[(4,[0,3,8])],[(116,bZ_),(117,de_),(84,dP_)],ax_,[]⟩
def bp_:=fF bp_.cx f60
def bp_.l4 k a b c d:=aV_ (bp_.cx) f60 4 k (gP a::.bad::.bad::gS b::B 4 (.bx [.int .i64 c,.str d]::B 39 []))
theorem ny_:as_ bp_.cx f60 (k+1) [x,s,t,r] H Q=bN x H λa=>dJ H a [.str] s (.a [nN 0,nN 0,mkS [],mkS []]) λa b=>d6 a λa _=>cQ a (bM x H (λa=>sc_ H a true [.int .i64,.str] (.a [b,t]) (.a [nN 0,false]) λa c=>bk a λa _=>dZ a (bW_ c (cl bZ_ [x,.agg [b,t]] H (λ_ a=>bp_.l4 k x r b t a Q)) (bp_.l4 k x r b t H Q)))):=zz
theorem bp_.l4_eq:bp_.l4 (k+1) x s i t H Q=aG de_ [x] H λa b=>bv x a λc=>dy a c [.int .i64] b (.a [nN 0,s]) λa=>dG dP_ [x,.agg [i,t],.agg [b,true]] a Q []:=zz
theorem nZ_:am_ prog 60 (bp_):=sO (eZ f5_ func116 (eZ mT_ func117 (eZ oK_ func84 eN))) nO func60
def fg_.cx:Cx:=⟨tys,[],[],[],[(60,bp_)],ax_,[]⟩
def fg_:=fF fg_.cx f59
theorem s0_:as_ fg_.cx f59 (k+1) [x,.g (.ptr (some (n,m))),.g (.ptr (some (l,o))),.g (.ptr (some (N,M)))] H Q=cA H n m H l o λa b=>ah H N M λc=>dG bp_ [x,a,b,c] H Q []:=zz
theorem te_:am_ prog 59 (fg_):=sO (eZ nZ_ func60 eN) nO func59
def dA_.cx:Cx:=⟨tys,[5,6,7],[],[],[(58,(fK_ (cM_ [(56,ff_),(59,fg_)])))],ax_,[.cell 8 24,.tmp 9]⟩
def dA_:=fF dA_.cx f17
theorem vg_:as_ dA_.cx f17 (k+1) [.agg [.sl x n 5],s,t,r] H Q=bY (fK_ (cM_ [(56,ff_),(59,fg_)])) [.agg [.sl x n 5],.g (.fn 56 [(ln H,0),(ln (pu H (.row true 9 [.str s])),0),(ln (pu (pu H (.row true 9 [.str s])) (.row true 9 [.str t])),0)]),.g (.fn 59 [(ln H,0),(ln (pu H (.row true 9 [.str s])),0),(ln (pu (pu H (.row true 9 [.str s])) (.row true 9 [.str t])),0)])] (pu (pu (pu H (.row true 9 [s])) (.row true 9 [t])) (.row true 9 [r])) 5 λa b c d=>bj b λb=>ax Q [.a [.sl c d 5],b] a:=zz
theorem vd_:am_ prog 17 (dA_):=sO (dG_.cons ((pm_ (cM_ [(56,ff_),(59,fg_)]) (gn_ (eZ sm_ func56 (eZ te_ func59 eN)))).c ⟨_,func58,by kernel_rfl,by kernel_rfl⟩) eN) nO func17
def bt_.cx:Cx:=⟨tys,[],[(2000000,[0])],[],[],ax_,[.tmp 6]⟩
def bt_:=fF bt_.cx f118
theorem g6_:as_ bt_.cx f118 (k+1) [nL x n 3,i,j] H Q=cf 0 (nI n) (dk 0 j (leI 0 i) (chk (leN (tN i) (tN j)&&(leN (tN j) (tN (nI n))&&(leN (tN (nI n)) n&&nc_ H x (tN (nI n)*3)))) (bh i j (dz Q x n 3 H) (cf 0 i (eJ (leN 0 (tN i)&&(leN (tN i) n||kf_ H x (tN i*3))) (dk 0 j (leN (tN j) n) (aN (cU H (shf x (tN j*3)) ((n-tN j)*3) H 108 3 40 (shf x 0) (tN i-0) (n-tN j) (λa b c=>cf 0 (nI n) (dk 0 (nI b) (leN (tN (nI b)) (tN (nI n))&&(leN (tN (nI n)) b||kf_ c a (tN (nI n)*3))) (aN (clr c (shf a (tN (nI b)*3)) (tN (nI n)-tN (nI b)) [.str (mkS []),.str (mkS []),.bool false] (λc=>dz Q a b 3 c))))))))))))):=zz
theorem g2_:am_ prog 118 (bt_):=sO eN nO func118
def fk_.cx:Cx:=⟨tys,[],[],[],[(110,e0_),(50,cD_),(118,bt_)],ax_,[.tmp 6,.tmp 7]⟩
def fk_:=fF fk_.cx f62
theorem sF_:as_ fk_.cx f62 (k+1) [nL x n 5,s,t] H Q=bV e0_ [nL x n 5,s,t] H 5 λa b c d=>af b λb e=>dP e λe=>cO b 0 Q (.s (.sl none 0 5)) a (co e a 3 (λb f=>cd cD_ [nL b f 3,t] a λa b f=>aL f (ax Q [.s (.sl none 0 5),nN 1908] a) (co e a 3 (λf g=>aC bt_ [nL f g 3,b,ab_ .i64 (b+1)] a 3 λa b f=>pS e λe g=>bt a e (g+4) (.sl b f 3) Q [.s (.sl c d 5),nN 0])))):=zz
theorem sl_:am_ prog 62 (fk_):=sO (eZ ob_ func110 (eZ gI_ func50 (eZ g2_ func118 eN))) nO func62
def eH_.cx:Cx:=⟨tys,[],[],[],[(62,fk_)],ax_,[.tmp 4]⟩
def eH_:=fF eH_.cx f61
theorem qA_:as_ eH_.cx f61 (k+1) [nL x n 5,.g (.ptr (some (m,l))),.g (.ptr (some (o,N)))] H Q=cA H m l H o N λa b=>bV fk_ [nL x n 5,a,b] H 5 λa b _ _=>bj b λb=>Q b a:=zz
theorem ra_:am_ prog 61 (eH_):=sO (eZ sl_ func62 eN) nO func61
def da_.cx:Cx:=⟨tys,[],[],[],[(116,bZ_)],ax_,[]⟩
def da_:=fF da_.cx f64
theorem mP_:as_ da_.cx f64 (k+1) [x,s,t] H Q=bN x H λa=>dJ H a [.str] s (.a [nN 0,nN 0,mkS [],mkS []]) λa b=>d6 a λa _=>cQ a (dG bZ_ [x,.agg [b,t]] H Q []):=zz
theorem mJ_:am_ prog 64 (da_):=sO (eZ f5_ func116 eN) nO func64
def eL_.cx:Cx:=⟨tys,[],[],[],[(64,da_)],ax_,[]⟩
def eL_:=fF eL_.cx f63
theorem qm_:as_ eL_.cx f63 (k+1) [x,.g (.ptr (some (n,m))),.g (.ptr (some (l,o)))] H Q=cA H n m H l o λa b=>dG da_ [x,a,b] H Q []:=zz
theorem rk_:am_ prog 63 (eL_):=sO (eZ mJ_ func64 eN) nO func63
end Go.Am
namespace Go.Am
open List
open Go.Proofs.Tryz
variable{E:Nat->Sm}{k:Nat}{H:Hp}{Q:Post}{U X Y Z u w x x1 y z:Pl}{D L M N O l m n n1 o:Nat}{I g h i j:Int}{C b b1 b2 c d:Bool}{R S e r s t:ByteArray}{A a:Option Nat}{p q:List (Nat×Nat)}{F:Sm}
def dS_.cx:Cx:=⟨tys,[4,5],[],[],[(58,(fK_ (cM_ [(61,eH_),(63,eL_)])))],ax_,[.cell 6 24,.tmp 7]⟩
def dS_:=fF dS_.cx f18
theorem ux_:as_ dS_.cx f18 (k+1) [.agg [.sl x n 5],s,t] H Q=bY (fK_ (cM_ [(61,eH_),(63,eL_)])) [.agg [.sl x n 5],.g (.fn 61 [(ln H,0),(ln (pu H (.row true 9 [.str s])),0)]),.g (.fn 63 [(ln H,0),(ln (pu H (.row true 9 [.str s])),0)])] (pu (pu H (.row true 9 [s])) (.row true 9 [t])) 5 λa b c d=>bj b λb=>ax Q [.a [.sl c d 5],b] a:=zz
theorem ut_:am_ prog 18 (dS_):=sO (dG_.cons ((pm_ (cM_ [(61,eH_),(63,eL_)]) (gn_ (eZ ra_ func61 (eZ rk_ func63 eN)))).c ⟨_,func58,by kernel_rfl,by kernel_rfl⟩) eN) nO func18
def fv_.cx:Cx:=⟨tys,[],[],[],[],ax_,[.tmp 2]⟩
def fv_:=fF fv_.cx f19
theorem ts_:am_ prog 19 (fv_):=sO eN nO func19
def e2_.cx:Cx:=⟨tys,[],[],[],[(28,bY_),(66,aw_)],ax_,[.tmp 2,.tmp 3]⟩
def e2_:=fF e2_.cx f21
theorem vU_:as_ e2_.cx f21 (k+1) [.agg [.sl x n 5]] H Q=dj bY_ [.agg [.sl x n 5]] H λa b c=>d8 b (ax Q [.s (.sl none 0 5),nN 2000] a) (aU aw_ [c] a 5 Q (nN 0)):=zz
theorem wU_:am_ prog 21 (e2_):=sO (eZ kq_ func28 (eZ dV_ func66 eN)) nO func21
def gt_.cx:Cx:=⟨tys,[2],[],[],[],ax_,[.cell 0 24]⟩
def gt_:=fF gt_.cx f44
theorem Bf_:as_ gt_.cx f44 (k+1) [] H Q=ak (leI 0 0&&ltI 0 (nI (tN 48))) (aE (pu H (.row true 100 (k2_ (tN 48) [.bool false,.bool false,.sl none 0 1,.sl none 0 1,.sl none 0 1]))) (ln H) (0+tN 0*5) true (ln H) (0+tN 0*5+1) true (λa=>aE a (ln H) (0+tN 0*5+1+1) (.sl none 0 1) (ln H) (0+tN 0*5+1+1+1) (.sl none 0 1) λa=>dq a (ln H) (0+tN 0*5+1+1+1+1) none 0 1 λa=>eg Q [.sl (some (ln H,0)) (tN 48) 5] a)):=zz
theorem n8_:am_ prog 44 (gt_):=sO eN nO func44
def bf_.cx:Cx:=⟨tys,[],[(3,[0,3,4])],[],[],ax_,[.tmp 2]⟩
def bf_:=fF bf_.cx f69
def bf_.l3 k a b c d e:=aV_ (bf_.cx) f69 3 k (nL a b 5::.bad::.bad::nL c d 5::gI e::B 21 [])
theorem xi_:as_ bf_.cx f69 (k+1) [nL x n 5] H Q=bf_.l3 k x n none 0 0 H Q:=zz
theorem bf_.l3_eq:bf_.l3 (k+1) x n y m i H Q=bX i n (cY (leI 0 i&&ltI i (nI n)) x H (tN i*5) H H H H 3 (λa b c d e f=>aN (dD H e (f*3) H 108 3 40 f (λe=>dA e 52 5 80 y m [a,b,c,d,.sl (some (ln H,0)) f 3] λa b c=>bf_.l3 k x n a b (ab_ .i64 (i+1)) c Q)))) (dz Q y m 5 H):=zz
theorem kU_:am_ prog 69 (bf_):=sO eN nO func69
def a2_.cx:Cx:=⟨tys,[],[(4,[0,3,5,6,7])],[(9,[0,3,5,6,7])],[],ax_,[.tmp 4]⟩
def a2_:=fF a2_.cx f96
def a2_.l4 k a b c d e f g h i j l m:=aV_ (a2_.cx) f96 4 k (nL a b 5::.bad::.bad::.bx [.str c,.int .i64 d,.str e,.str f,.sl g h 3]::.bad::nL i j 5::gB l::gI m::B 36 [])
def a2_.l9 k a b c d e f g h i j l m:=aV_ (a2_.cx) f96 9 k (nL a b 5::.bad::.bad::.bx [.str c,.int .i64 d,.str e,.str f,.sl g h 3]::.bad::nL i j 5::gB l::gI m::B 36 [])
theorem xF_:as_ a2_.cx f96 (k+1) [nL x n 5,.agg [s,i,t,r,.sl y m 3]] H Q=a2_.l4 k x n s i t r y m none 0 false 0 H Q:=zz
theorem a2_.l4_eq:a2_.l4 (k+1) x n s i t r y m z l b j H Q=bX j n (aL b (bo (leI 0 j&&ltI j (nI n)) x H (tN j*5) (λa=>aL (dy_ a s||gc_ a s) (dA H 52 5 80 z l [s,i,t,r,.sl y m 3] (λa b c=>a2_.l9 k x n s i t r y m a b true j c Q)) (a2_.l9 k x n s i t r y m z l b j H Q))) (a2_.l9 k x n s i t r y m z l b j H Q)) (aL b (dA H 52 5 80 z l [s,i,t,r,.sl y m 3] (λa b c=>dz Q a b 5 c)) (dz Q z l 5 H)):=zz
theorem a2_.l9_eq:a2_.l9 (k+1) x n s i t r y m z l b j H Q=cY (leI 0 j&&ltI j (nI n)) x H (tN j*5) H H H H 3 λa c d e f g=>dA H 52 5 80 z l [a,c,d,e,.sl f g 3] λa c d=>a2_.l4 k x n s i t r y m a c b (ab_ .i64 (j+1)) d Q:=zz
theorem pt_:am_ prog 96 (a2_):=sO eN nO func96
def bc_.cx:Cx:=⟨tys,[],[(17,[0,10,11,12])],[],[(95,ce_),(29,a3_),(51,bs_),(69,bf_),(96,a2_)],ax_,[.tmp 8,.tmp 9]⟩
def bc_:=fF bc_.cx f37
def bc_.l17 k a b c d e f g h i j:=aV_ (bc_.cx) f37 17 k (nL a b 5::B 9 (gI c::.bx [.str d,.int .i64 e,.str f,.str g,.sl h i 3]::gI j::B 87 []))
theorem sa_:as_ bc_.cx f37 (k+1) [nL x n 5,s,t,i] H Q=aG ce_ [nL x n 5,t] H λa b=>dK a3_ [nL x n 5] a Q [.s (.sl none 0 5),nN 1900] bs_ [s] Q [.s (.sl none 0 5),nN 1901] λa=>dY t [] (bq bs_ [t] a Q [.s (.sl none 0 5),nN 1901] (λa=>bf i 0 (cp i 1 Q [.s (.sl none 0 5),nN 1905] a (aG ce_ [nL x n 5,s] a (λa c=>dQ 0 c Q [.s (.sl none 0 5),nN 1902] a (dY t [] (en b 0 Q [.s (.sl none 0 5),nN 1904] a (bZ (leI 0 b&&ltI b (nI n)) x a (tN b*5) (λc=>cp c 2 Q [.s (.sl none 0 5),nN 1904] a (dQ 6 (nI n) Q [.s (.sl none 0 5),nN 1910] a (aY 0 b (bc_.l17 k x n b s i t (mkS []) none 0 0 a Q) (d7 bf_ [nL x n 5] a 5 a2_ [s,i,t,mkS [],.sl none 0 3] 5 Q (nN 0))))))) (dQ 6 (nI n) Q [.s (.sl none 0 5),nN 1910] a (aY 0 b (bc_.l17 k x n b s i t (mkS []) none 0 0 a Q) (d7 bf_ [nL x n 5] a 5 a2_ [s,i,t,mkS [],.sl none 0 3] 5 Q (nN 0)))))))) (aG ce_ [nL x n 5,s] a (λa c=>dQ 0 c Q [.s (.sl none 0 5),nN 1902] a (dY t [] (en b 0 Q [.s (.sl none 0 5),nN 1904] a (bZ (leI 0 b&&ltI b (nI n)) x a (tN b*5) (λc=>cp c 2 Q [.s (.sl none 0 5),nN 1904] a (dQ 6 (nI n) Q [.s (.sl none 0 5),nN 1910] a (aY 0 b (bc_.l17 k x n b s i t (mkS []) none 0 0 a Q) (d7 bf_ [nL x n 5] a 5 a2_ [s,i,t,mkS [],.sl none 0 3] 5 Q (nN 0))))))) (dQ 6 (nI n) Q [.s (.sl none 0 5),nN 1910] a (aY 0 b (bc_.l17 k x n b s i t (mkS []) none 0 0 a Q) (d7 bf_ [nL x n 5] a 5 a2_ [s,i,t,mkS [],.sl none 0 3] 5 Q (nN 0))))))))) (bf i 0 (cp i 1 Q [.s (.sl none 0 5),nN 1905] a (aG ce_ [nL x n 5,s] a (λa c=>dQ 0 c Q [.s (.sl none 0 5),nN 1902] a (dY t [] (en b 0 Q [.s (.sl none 0 5),nN 1904] a (bZ (leI 0 b&&ltI b (nI n)) x a (tN b*5) (λc=>cp c 2 Q [.s (.sl none 0 5),nN 1904] a (dQ 6 (nI n) Q [.s (.sl none 0 5),nN 1910] a (aY 0 b (bc_.l17 k x n b s i t (mkS []) none 0 0 a Q) (d7 bf_ [nL x n 5] a 5 a2_ [s,i,t,mkS [],.sl none 0 3] 5 Q (nN 0))))))) (dQ 6 (nI n) Q [.s (.sl none 0 5),nN 1910] a (aY 0 b (bc_.l17 k x n b s i t (mkS []) none 0 0 a Q) (d7 bf_ [nL x n 5] a 5 a2_ [s,i,t,mkS [],.sl none 0 3] 5 Q (nN 0)))))))) (aG ce_ [nL x n 5,s] a (λa c=>dQ 0 c Q [.s (.sl none 0 5),nN 1902] a (dY t [] (en b 0 Q [.s (.sl none 0 5),nN 1904] a (bZ (leI 0 b&&ltI b (nI n)) x a (tN b*5) (λc=>cp c 2 Q [.s (.sl none 0 5),nN 1904] a (dQ 6 (nI n) Q [.s (.sl none 0 5),nN 1910] a (aY 0 b (bc_.l17 k x n b s i t (mkS []) none 0 0 a Q) (d7 bf_ [nL x n 5] a 5 a2_ [s,i,t,mkS [],.sl none 0 3] 5 Q (nN 0))))))) (dQ 6 (nI n) Q [.s (.sl none 0 5),nN 1910] a (aY 0 b (bc_.l17 k x n b s i t (mkS []) none 0 0 a Q) (d7 bf_ [nL x n 5] a 5 a2_ [s,i,t,mkS [],.sl none 0 3] 5 Q (nN 0)))))))):=zz
theorem bc_.l17_eq:bc_.l17 (k+1) x n i s j t r y m h H Q=aB (leI 0 i&&ltI i (nI n)) x λa b=>aX H a (b+tN i*5+4) 3 h (dm (leI 0 i&&ltI i (nI n)) x H (tN i*5) 3 0 h h (λa b=>cA H a (b+tN h*3) H a (b+tN h*3+1) λc d=>aF H a (b+tN h*3+1+1) λ_=>dA H 108 3 40 y m [c,d,false] λa b c=>bc_.l17 k x n i s j t r a b (ab_ .i64 (h+1)) c Q)) (d7 bf_ [nL x n 5] H 5 a2_ [s,j,t,r,.sl y m 3] 5 Q (nN 0)):=zz
theorem sz_:am_ prog 37 (bc_):=sO (eZ kx_ func95 (eZ fO_ func29 (eZ dK_ func51 (eZ kU_ func69 (eZ pt_ func96 eN))))) nO func37
def aG_.cx:Cx:=⟨tys,[],[(2,[0,3]),(6,[0,3,4,5])],[],[(75,ba_)],ax_,[.tmp 2]⟩
def aG_:=fF aG_.cx f121
def aG_.l2 k a b:=aV_ (aG_.cx) f121 2 k (gP a::.bad::.bad::gI b::B 35 [])
def aG_.l6 k a b c d:=aV_ (aG_.cx) f121 6 k (gP a::.bad::.bad::gI b::gB c::gI d::B 33 [])
theorem mX_:as_ aG_.cx f121 (k+1) [x] H Q=aG_.l2 k x 1 H Q:=zz
theorem aG_.l2_eq:aG_.l2 (k+1) x i H Q=aY i 255 (aG ba_ [x,i] H (λa b=>aG_.l6 k x i (leI 0 b) 0 a Q)) (Q (nN 0) H):=zz
theorem aG_.l6_eq:aG_.l6 (k+1) x i b j H Q=cw x H 4 j (bW_ b (aG_.l6 k x i true (ab_ .i64 (j+1)) H Q) (de x H 4 0 j j (λa b=>aq H a (b+tN j*4+0) λa=>aG_.l6 k x i (eqI a i) (ab_ .i64 (j+1)) H Q))) (aL b (Q i H) (aG_.l2 k x (ab_ .i64 (i+1)) H Q)):=zz
theorem mF_:am_ prog 121 (aG_):=sO (eZ gW_ func75 eN) nO func121
def dO_.cx:Cx:=⟨tys,[],[],[],[],ax_,[.tmp 2]⟩
def dO_:=fF dO_.cx f165
theorem oJ_:as_ dO_.cx f165 (k+1) [x] H Q=bw x H 5 λ_ a=>dV x H 4 λ_ b=>cI x H 3 λ_ c=>Q (ab_ .i64 (ab_ .i64 (nI a+nI b)+nI c)) H:=zz
theorem o3_:am_ prog 165 (dO_):=sO eN nO func165
def bb_.cx:Cx:=⟨tys,[],[(2,[0,3])],[],[(75,ba_)],ax_,[.tmp 2]⟩
def bb_:=fF bb_.cx f147
def bb_.l2 k a b:=aV_ (bb_.cx) f147 2 k (gP a::.bad::.bad::gI b::B 21 [])
theorem mA_:as_ bb_.cx f147 (k+1) [x] H Q=bb_.l2 k x 0 H Q:=zz
theorem bb_.l2_eq:bb_.l2 (k+1) x i H Q=cw x H 4 i (de x H 4 0 i i (λa b=>aq H a (b+tN i*4+0) λa=>aG ba_ [x,a] H λa b=>av b 0 (Q i a) (bb_.l2 k x (ab_ .i64 (i+1)) a Q))) (dO Q .i64 (-1) H):=zz
theorem mw_:am_ prog 147 (bb_):=sO (eZ gW_ func75 eN) nO func147
def aF_.cx:Cx:=⟨tys,[],[(3,[0,1,4,5,6]),(11,[0,7,8])],[],[(55,aO_)],ax_,[]⟩
def aF_:=fF aF_.cx f123
def aF_.l3 k a b c d e f:=aV_ (aF_.cx) f123 3 k (gP a::gI b::.bad::.bad::gI c::nL d e 4::gI f::B 84 [])
def aF_.l11 k a b c d:=aV_ (aF_.cx) f123 11 k (gP a::B 6 (nL b c 3::gI d::B 82 []))
theorem o0_:as_ aF_.cx f123 (k+1) [x,i] H Q=de x H 4 0 i i λa b=>aq H a (b+tN i*4+2) λa=>aG aO_ [x,a] H λa b=>aF_.l3 k x i b none 0 0 a Q:=zz
theorem aF_.l3_eq:aF_.l3 (k+1) x i j y n h H Q=cw x H 4 h (bf h i (de x H 4 0 h h (λa b=>aq H a (b+tN h*4) λc=>ah H a (b+tN h*4+1) λd=>aq H a (b+tN h*4+1+1) λe=>aF H a (b+tN h*4+1+1+1) λa=>dA H 87 4 40 y n [c,d,e,a] λa b c=>aF_.l3 k x i j a b (ab_ .i64 (h+1)) c Q)) (aF_.l3 k x i j y n (ab_ .i64 (h+1)) H Q)) (bO x H (.sl y n 4) (λa=>cI x a 3 λb c=>cK (leI 0 j&&ltI j (nI c)) b a (tN j*3) λd=>aB (leI 0 j&&ltI j (nI c)) b λb c=>wr a b (c+tN j*3+1+0) (ab_ .i64 (d-1)) λa=>aF_.l11 k x none 0 0 a Q)):=zz
theorem aF_.l11_eq:aF_.l11 (k+1) x y n i H Q=eH x H 3 i (ew x H 3 0 i i (λa b=>aq H a (b+tN i*3+1+0) λa=>av 0 a (ew x H 3 0 i i (λa b=>aq H a (b+tN i*3) λc=>aq H a (b+tN i*3+1) λd=>ah H a (b+tN i*3+1+1) λa=>dA H 65 3 32 y n [c,d,a] λa b c=>aF_.l11 k x a b (ab_ .i64 (i+1)) c Q)) (aF_.l11 k x y n (ab_ .i64 (i+1)) H Q))) (pS x (λa b=>bt H a (b+2) (.sl y n 3) Q [])):=zz
theorem ja_:am_ prog 123 (aF_):=sO (eZ dZ_ func55 eN) nO func123
def bH_.cx:Cx:=⟨tys,[],[(0,[0])],[],[(147,bb_),(123,aF_)],ax_,[]⟩
def bH_:=fF bH_.cx f166
def bH_.l0 k a:=aV_ (bH_.cx) f166 0 k (gP a::B 8 [])
theorem bH_.l0_eq:bH_.l0 (k+1) x H Q=aG bb_ [x] H λa b=>aY 0 b (aG bb_ [x] a (λa b=>cl aF_ [x,b] a λ_ a=>bH_.l0 k x a Q)) (ax Q [] a):=zz
theorem nr_:am_ prog 166 (bH_):=sO (eZ mw_ func147 (eZ ja_ func123 eN)) nO func166
def fb_.cx:Cx:=⟨tys,[],[],[],[(51,bs_)],ax_,[.tmp 2,.tmp 3]⟩
def fb_:=fF fb_.cx f208
theorem s3_:as_ fb_.cx f208 (k+1) [s] H Q=bq bs_ [s] H Q [mkS [],nN 1600] λa=>da (mkS [115]) s Q (nN 0) a:=zz
theorem sy_:am_ prog 208 (fb_):=sO (eZ dK_ func51 eN) nO func208
def fh_.cx:Cx:=⟨tys,[17],[],[],[(168,dR_)],ax_,[.tmp 2,.tmp 3]⟩
def fh_:=fF fh_.cx f209
theorem rW_:as_ fh_.cx f209 (k+1) [.agg [i,j,s,t]] H Q=cT dR_ [.agg [i,j,s,t]] H Q [mkS [],nN 1700] (.row true 5 [.int .u8 (ab_ .u8 i),.int .u8 (ab_ .u8 j),.int .u8 (ab_ .u8 (sz s))]) 3 λa b=>If_ b s λb=>da b t Q (nN 0) (pu a (.row true 5 [.int .u8 (ab_ .u8 i),.int .u8 (ab_ .u8 j),.int .u8 (ab_ .u8 (sz s))])):=zz
theorem td_:am_ prog 209 (fh_):=sO (eZ lk_ func168 eN) nO func209
def dx_.cx:Cx:=⟨tys,[],[(3,[0,1,6,7])],[],[],ax_,[.tmp 4,.tmp 5]⟩
def dx_:=fF dx_.cx f99
def dx_.l3 k a b c d e:=aV_ (dx_.cx) f99 3 k (nL a b 1::gS c::B 4 (gI d::gI e::B 27 []))
theorem zm_:as_ dx_.cx f99 (k+1) [nL x n 1,s] H Q=dx_.l3 k x n s 0 0 H Q:=zz
theorem dx_.l3_eq:dx_.l3 (k+1) x n s i j H Q=bX j n (ep (leI 0 j&&ltI j (nI n)) x H (tN j*1) s (dx_.l3 k x n s (ab_ .i64 (i+1)) (ab_ .i64 (j+1)) H Q) (dx_.l3 k x n s i (ab_ .i64 (j+1)) H Q)) (bX i n (aH (leI 0 i&&ltI i (nI n)) x H (tN i*1) (λa=>ax Q [i,.s (.bool (gc_ a s))] H)) (ax Q [i,false] H)):=zz
theorem zL_:am_ prog 99 (dx_):=sO eN nO func99
def gv_.cx:Cx:=⟨tys,[],[],[],[],ax_,[.tmp 2]⟩
def gv_:=fF gv_.cx f149
theorem xO_:as_ gv_.cx f149 (k+1) [nL x n 1] H Q=aN (dD H x (n*1) H 9 1 16 n (λa=>dz Q (some (ln H,0)) n 1 a)):=zz
theorem xG_:am_ prog 149 (gv_):=sO eN nO func149
def ik_.cx:Cx:=⟨tys,[],[],[],[],ax_,[.tmp 2]⟩
def ik_:=fF ik_.cx f150
theorem zp_:as_ ik_.cx f150 (k+1) [nL x n 1] H Q=aN (dD H x (n*1) H 3 1 8 n (λa=>dz Q (some (ln H,0)) n 1 a)):=zz
theorem zM_:am_ prog 150 (ik_):=sO eN nO func150
def ca_.cx:Cx:=⟨tys,[],[(3,[1,2,3,4])],[],[(149,gv_),(150,ik_)],ax_,[.cell 2 24]⟩
def ca_:=fF ca_.cx f100
def ca_.l3 k a b c d e f g:=aV_ (ca_.cx) f100 3 k (.bad::.bx [.sl a b 5]::.bx [.sl c d 5]::.bx [.sl e f 5]::gI g::B 32 [])
theorem sf_:as_ ca_.cx f100 (k+1) [.agg [.sl x n 5]] H Q=ca_.l3 k x n none 0 none 0 0 H Q:=zz
theorem ca_.l3_eq:ca_.l3 (k+1) x n y m z l i H Q=bX i n (bT (leI 0 i&&ltI i (nI n)) x H (tN i*5) H (tN i*5) H (tN i*5) 1 H (tN i*5) 1 H (tN i*5) 1 (λa b c d e f g h=>aC gv_ [nL c d 1] H 1 λc d j=>aC gv_ [nL e f 1] c 1 λc e f=>aC ik_ [nL g h 1] c 1 λc g h=>dA c 100 5 80 z l [a,b,.sl d j 1,.sl e f 1,.sl g h 1] λa b c=>ca_.l3 k x n y m a b (ab_ .i64 (i+1)) c Q)) (eg Q [.sl z l 5] H):=zz
theorem tj_:am_ prog 100 (ca_):=sO (eZ xG_ func149 (eZ zM_ func150 eN)) nO func100
def cS_.cx:Cx:=⟨tys,[],[(4,[0,5,6,7]),(2000000,[6])],[],[],ax_,[.tmp 4]⟩
def cS_:=fF cS_.cx f152
def cS_.l4 k a b c d e:=aV_ (cS_.cx) f152 4 k (gI a::B 4 (gI b::nL c d 1::gI e::B 28 []))
theorem xk_:as_ cS_.cx f152 (k+1) [i,j] H Q=chk (!(eqI j 0)) (cS_.l4 k i (mxI 1 (ab_ .i64 (Int.tdiv (ab_ .i64 (ab_ .i64 (i+j)-1)) j))) none 0 0 H Q):=zz
theorem cS_.l4_eq:cS_.l4 (k+1) i j x n h H Q=av h j (ae (!(eqI j 0)) (!(eqI j 0)) (dA H 3 1 8 x n [ab_ .i64 (ab_ .i64 (Int.tdiv (ab_ .i64 (i*ab_ .i64 (h+1))) j)-ab_ .i64 (Int.tdiv (ab_ .i64 (i*h)) j))] (λa b c=>cS_.l4 k i j a b (ab_ .i64 (h+1)) c Q))) (dz Q x n 1 H):=zz
theorem pb_:am_ prog 152 (cS_):=sO eN nO func152
def a5_.cx:Cx:=⟨tys,[],[(5,[0,2,3,4,5,6]),(9,[0,2,3,4,5,6,7,8])],[(16,[0,2,3,4,5,6,7,9])],[(152,cS_)],ax_,[.cell 2 198]⟩
def a5_:=fF a5_.cx f151
def a5_.l5 k a b c d e f g h i j l m n o:=aV_ (a5_.cx) f151 5 k (nL a b 2::.bad::.bx [.sl c d 5,.sl e f 1]::.bx [.sl g h 5,.sl i j 1]::nL l m 1::gI n::gI o::B 73 [])
def a5_.l9 k a b c d e f g h i j l m n o p q r s t u v w x:=aV_ (a5_.cx) f151 9 k (nL a b 2::.bad::.bx [.sl c d 5,.sl e f 1]::.bx [.sl g h 5,.sl i j 1]::nL l m 1::gI n::gI o::.bx [.bool p,.bool q,.sl r s 1,.sl t u 1,.sl v w 1]::gI x::B 71 [])
def a5_.l16 k a b c d e f g h i j l m n o p q r s t u v w x:=aV_ (a5_.cx) f151 16 k (nL a b 2::.bad::.bx [.sl c d 5,.sl e f 1]::.bx [.sl g h 5,.sl i j 1]::nL l m 1::gI n::gI o::.bx [.bool p,.bool q,.sl r s 1,.sl t u 1,.sl v w 1]::.bad::gS x::B 70 [])
theorem u4_:as_ a5_.cx f151 (k+1) [nL x n 2] H Q=aC cS_ [nI n,nN 4] H 1 λa b c=>a5_.l5 k x n none 0 none 0 none 0 none 0 b c 0 0 a Q:=zz
theorem a5_.l5_eq:a5_.l5 (k+1) x n y m z l u o w N X M i j H Q=bX j M (a5_.l9 k x n y m z l u o w N X M i j true true none 0 none 0 none 0 i H Q) (eg Q [.sl u o 5,.sl w N 1] H):=zz
theorem a5_.l9_eq:a5_.l9 (k+1) x n y m z l u o w N X M i j b c Y L Z O U D h H Q=aJ (leI 0 j&&ltI j (nI M)) X H (tN j*1) λa=>av h (ab_ .i64 (i+a)) (bo (leI 0 h&&ltI h (nI n)) x H (tN h*2) (λa=>dA H 9 1 16 Y L [a] λa d e=>dC (leI 0 h&&ltI h (nI n)) x e (tN h*2) λf=>dA e 9 1 16 Z O [f] λe f g=>a5_.l9 k x n y m z l u o w N X M i j b c a d e f U D (ab_ .i64 (h+1)) g Q)) (aJ (leI 0 j&&ltI j (nI M)) X H (tN j*1) (λa=>av 0 a (bo (leI 0 i&&ltI i (nI n)) x H (tN i*2) (λa=>a5_.l16 k x n y m z l u o w N X M i j b c Y L Z O U D a H Q)) (a5_.l16 k x n y m z l u o w N X M i j b c Y L Z O U D (mkS []) H Q))):=zz
theorem a5_.l16_eq:a5_.l16 (k+1) x n y m z l u o w N X M i j b c Y L Z O U D s H Q=dA H 100 5 80 u o [b,c,.sl Y L 1,.sl Z O 1,.sl U D 1] λa b c=>dA c 9 1 16 w N [s] λc d e=>aJ (leI 0 j&&ltI j (nI M)) X e (tN j*1) λf=>a5_.l5 k x n y m z l a b c d X M (ab_ .i64 (i+f)) (ab_ .i64 (j+1)) e Q:=zz
theorem wq_:am_ prog 151 (a5_):=sO (eZ pb_ func152 eN) nO func151
def a9_.cx:Cx:=⟨tys,[],[(4,[2,3,4,5]),(9,[2,3,4,5,6,7,8,9]),(13,[2,3,4,5,6,7,8,9,10,11])],[],[(44,gt_),(151,a5_),(152,cS_)],ax_,[.cell 2 24]⟩
def a9_:=fF a9_.cx f102
def a9_.l4 k a b c d e f g h i:=aV_ (a9_.cx) f102 4 k (.bad::.bad::.bx [.sl a b 5]::.bx [.sl c d 5]::.bx [.sl e f 5,.sl g h 1]::gI i::B 96 [])
def a9_.l9 k a b c d e f g h i j l m n o p q r:=aV_ (a9_.cx) f102 9 k (.bad::.bad::.bx [.sl a b 5]::.bx [.sl c d 5]::.bx [.sl e f 5,.sl g h 1]::gI i::.bx [.sl j l 5,.sl m n 1]::nL o p 1::gI q::gI r::B 92 [])
def a9_.l13 k a b c d e f g h i j l m n o p q r s t u v w x y z A:=aV_ (a9_.cx) f102 13 k (.bad::.bad::.bx [.sl a b 5]::.bx [.sl c d 5]::.bx [.sl e f 5,.sl g h 1]::gI i::.bx [.sl j l 5,.sl m n 1]::nL o p 1::gI q::gI r::.bx [.bool s,.bool t,.sl u v 1,.sl w x 1,.sl y z 1]::gI A::B 90 [])
theorem xV_:as_ a9_.cx f102 (k+1) [nL x n 2] H Q=bJ gt_ [] H 5 λa b c=>bc a5_ [nL x n 2] a λa d=>ce d 5 1 λd e f g=>a9_.l4 k none 0 b c d e f g 1 a Q:=zz
theorem a9_.l4_eq:a9_.l4 (k+1) x n y m z l u o i H Q=bX 1 l (aC cS_ [nI l,nN 5] H 1 (λa b c=>a9_.l9 k x n y m z l u o i none 0 none 0 b c 0 0 a Q)) (cJ (leI 0 0&&ltI 0 (nI l)) z H (tN 0*5) H (tN 0*5) H (tN 0*5) 1 H (tN 0*5) 1 H (tN 0*5) 1 (leI 0 0&&ltI 0 (nI m)) y H (tN 0*5) (tN 0*5) (tN 0*5) (tN 0*5) (tN 0*5) (λa=>eg Q [.sl y m 5] a)):=zz
theorem a9_.l9_eq:a9_.l9 (k+1) x n y m z l u o i w N X M Y L j h H Q=bX h L (a9_.l13 k x n y m z l u o i w N X M Y L j h true false none 0 none 0 none 0 j H Q) (a9_.l4 k x n y m w N X M i H Q):=zz
theorem a9_.l13_eq:a9_.l13 (k+1) x n y m z l u o i w N X M Y L j h b c Z O U D x1 n1 g H Q=aJ (leI 0 h&&ltI h (nI L)) Y H (tN h*1) λa=>av g (ab_ .i64 (j+a)) (cJ (leI 0 g&&ltI g (nI l)) z H (tN g*5) H (tN g*5) H (tN g*5) 1 H (tN g*5) 1 H (tN g*5) 1 (leI 0 i&&ltI i (nI m)) y H (tN i*5) (tN i*5) (tN i*5) (tN i*5) (tN i*5) (λa=>dA a 3 1 8 x1 n1 [i] λa d e=>av j g (aH (leI 0 g&&ltI g (nI o)) u e (tN g*1) (λf=>dA e 9 1 16 Z O [f] λe f p=>a9_.l13 k x n y m z l u o (ab_ .i64 (i+1)) w N X M Y L j h b c e f U D a d (ab_ .i64 (g+1)) p Q)) (a9_.l13 k x n y m z l u o (ab_ .i64 (i+1)) w N X M Y L j h b c Z O U D a d (ab_ .i64 (g+1)) e Q))) (dA H 100 5 80 w N [b,c,.sl Z O 1,.sl U D 1,.sl x1 n1 1] (λa b c=>aH (leI 0 j&&ltI j (nI o)) u c (tN j*1) λd=>dA c 9 1 16 X M [d] λc d e=>aJ (leI 0 h&&ltI h (nI L)) Y e (tN h*1) λf=>a9_.l9 k x n y m z l u o i a b c d Y L (ab_ .i64 (j+f)) (ab_ .i64 (h+1)) e Q)):=zz
theorem xP_:am_ prog 102 (a9_):=sO (eZ n8_ func44 (eZ wq_ func151 (eZ pb_ func152 eN))) nO func102
def bk_.cx:Cx:=⟨tys,[],[(4,[1,2,3,6,8]),(15,[1,2,6,12,13])],[],[(98,fM_),(99,dx_),(100,ca_),(101,br_),(102,a9_)],ax_,[.cell 6 24,.tmp 7]⟩
def bk_:=fF bk_.cx f43
def bk_.l4 k a b c d e f g:=aV_ (bk_.cx) f43 4 k (.bad::gS a::gS b::.bx [.sl c d 5]::.bad::.bad::.bx [.sl e f 5]::.bad::gI g::B 103 [])
def bk_.l15 k a b c d e f g:=aV_ (bk_.cx) f43 15 k (.bad::gS a::gS b::B 3 (.bx [.sl c d 5]::B 5 (nL e f 2::gI g::B 98 [])))
theorem wo_:as_ bk_.cx f43 (k+1) [.agg [.sl x n 5],s,t] H Q=bq fM_ [.agg [.sl x n 5]] H Q [.a [.sl none 0 5],nN 1200] λa=>en (sz s) 1 Q [.a [.sl none 0 5],nN 1200] a (en 6 (sz s) Q [.a [.sl none 0 5],nN 1200] a (en 10 (sz t) Q [.a [.sl none 0 5],nN 1200] a (bk_.l4 k s t x n none 0 0 a Q))):=zz
theorem bk_.l4_eq:bk_.l4 (k+1) s t x n y m i H Q=bX i n (aB (leI 0 i&&ltI i (nI n)) x (λa b=>dH H a (b+tN i*5+2) λa b=>cd dx_ [nL a b 1,s] H λa b c=>aB (leI 0 i&&ltI i (nI n)) x λd e=>db a d (e+tN i*5+1) (bW_ c (bJ ca_ [.agg [.sl x n 5]] a 5 (λa c d=>aB (leI 0 i&&ltI i (nI d)) c λe f=>cP a e (f+tN i*5+3) 1 0 b b λe f=>bt a e (f+tN b*1) t Q [.a [.sl c d 5],nN 0])) (bk_.l4 k s t x n y m (ab_ .i64 (i+1)) a Q)) (bk_.l4 k s t x n y m (ab_ .i64 (i+1)) a Q))) (aC br_ [.agg [.sl x n 5],nN 0,nL none 0 2] H 2 (λa b c=>dQ 60 (nI c) Q [.a [.sl none 0 5],nN 1201] a (bk_.l15 k s t y m b c 0 a Q))):=zz
theorem bk_.l15_eq:bk_.l15 (k+1) s t x n y m i H Q=bX i m (bo (leI 0 i&&ltI i (nI m)) y H (tN i*2) (λa=>bW_ (dy_ a s) (bk_.l15 k s t x n y m (ab_ .i64 (i+1)) H Q) (cf 0 i (eJ (leN 0 (tN i)&&(leN (tN i) m||kf_ H y (tN i*2))) (cU H (shf y 0) ((tN i-0)*2) H 131 2 32 none 0 (tN i-0) (λa b c=>dA c 131 2 32 a b [s,t] λa b c=>cf 0 i (eJ (leN (tN i) m) (cU c (shf y (tN i*2)) ((m-tN i)*2) c 131 2 32 a b (m-tN i) (λa b c=>bK a9_ [nL a b 2] c 5 Q (nN 0)))))))))) (cf 0 i (eJ (leN 0 (tN i)&&(leN (tN i) m||kf_ H y (tN i*2))) (cU H (shf y 0) ((tN i-0)*2) H 131 2 32 none 0 (tN i-0) (λa b c=>dA c 131 2 32 a b [s,t] λa b c=>cf 0 i (eJ (leN (tN i) m) (cU c (shf y (tN i*2)) ((m-tN i)*2) c 131 2 32 a b (m-tN i) (λa b c=>bK a9_ [nL a b 2] c 5 Q (nN 0)))))))):=zz
theorem vo_:am_ prog 43 (bk_):=sO (eZ ph_ func98 (eZ zL_ func99 (eZ tj_ func100 (eZ tJ_ func101 (eZ xP_ func102 eN))))) nO func43
def fi_.cx:Cx:=⟨tys,[16],[],[],[(213,dl_),(53,cE_)],ax_,[.tmp 4,.tmp 5]⟩
def fi_:=fF fi_.cx f210
theorem sp_:as_ fi_.cx f210 (k+1) [i,s] H Q=bq dl_ [i] H Q [mkS [],nN 1600] λa=>dw cE_ [s] a Q [mkS [],nN 1600] (.row true 5 [.int .u8 102,.int .u8 (ab_ .u8 i)]) 2 s Q (nN 0):=zz
theorem so_:am_ prog 210 (fi_):=sO (eZ hG_ func213 (eZ gP_ func53 eN)) nO func210
def eF_.cx:Cx:=⟨tys,[9],[],[],[(213,dl_)],ax_,[.tmp 2,.tmp 3]⟩
def eF_:=fF eF_.cx f211
theorem rj_:as_ eF_.cx f211 (k+1) [i] H Q=cT dl_ [i] H Q [mkS [],nN 1600] (.row true 5 [.int .u8 105,.int .u8 (ab_ .u8 i)]) 2 λa b=>ax Q [b,nN 0] (pu a (.row true 5 [.int .u8 105,.int .u8 (ab_ .u8 i)])):=zz
theorem qS_:am_ prog 211 (eF_):=sO (eZ hG_ func213 eN) nO func211
def eJ_.cx:Cx:=⟨tys,[10],[],[],[(169,dw_)],ax_,[.tmp 2,.tmp 3]⟩
def eJ_:=fF eJ_.cx f212
theorem qF_:as_ eJ_.cx f212 (k+1) [.agg [i,s]] H Q=dw dw_ [.agg [i,s]] H Q [mkS [],nN 1800] (.row true 5 [.int .u8 (ab_ .u8 i)]) 1 s Q (nN 0):=zz
theorem qN_:am_ prog 212 (eJ_):=sO (eZ kB_ func169 eN) nO func212
def aq_.cx:Cx:=⟨tys,[93],[(3,[0,2,3,4]),(9,[0,2,3,9]),(18,[0,2,3,14])],[(16,[0,2,3,9,10,11,13])],[(44,gt_),(208,fb_),(209,fh_),(43,bk_),(210,fi_),(211,eF_),(212,eJ_)],ax_,[.cell 2 24]⟩
def aq_:=fF aq_.cx f167
def aq_.l3 k a b c d e f:=aV_ (aq_.cx) f167 3 k (gP a::.bad::.bx [.sl b c 5]::.bx [.sl d e 5]::gI f::B 134 [])
def aq_.l9 k a b c d e f:=aV_ (aq_.cx) f167 9 k (gP a::.bad::.bx [.sl b c 5]::.bx [.sl d e 5]::B 5 (gI f::B 129 []))
def aq_.l16 k a b c d e f g h i j l m:=aV_ (aq_.cx) f167 16 k (gP a::.bad::.bx [.sl b c 5]::.bx [.sl d e 5]::B 5 (gI f::.bx [.int .i64 g,.str h,.int .i64 i,.bool j]::gS l::.bad::.g (.int .u8 m)::B 125 []))
def aq_.l18 k a b c d e f:=aV_ (aq_.cx) f167 18 k (gP a::.bad::.bx [.sl b c 5]::.bx [.sl d e 5]::B 10 (gI f::B 124 []))
theorem oX_:as_ aq_.cx f167 (k+1) [x] H Q=bJ gt_ [] H 5 λa b c=>aq_.l3 k x none 0 b c 0 a Q:=zz
theorem aq_.l3_eq:aq_.l3 (k+1) x y n z m i H Q=eG x H 5 i (cD x H 5 0 i i (λa b=>ah H a (b+tN i*5+0) λa=>dt fb_ [a] H λa b=>cD x a 5 0 i i λc d=>aq a c (d+tN i*5+1) λe=>aq a c (d+tN i*5+1+1) λf=>cA a c (d+tN i*5+1+1+1) a c (d+tN i*5+1+1+1+1) λc d=>dt fh_ [.agg [e,f,c,d]] a λa c=>dx bk_ [.agg [.sl z m 5],b,c] a 5 λa b c=>aq_.l3 k x y n b c (ab_ .i64 (i+1)) a Q)) (aq_.l9 k x y n z m 0 H Q):=zz
theorem aq_.l9_eq:aq_.l9 (k+1) x y n z m i H Q=cw x H 4 i (de x H 4 0 i i (λa b=>aq H a (b+tN i*4) λc=>ah H a (b+tN i*4+1) λd=>aq H a (b+tN i*4+1+1) λe=>aF H a (b+tN i*4+1+1+1) λa=>dt fi_ [c,d] H λb f=>bW_ a (aq_.l16 k x y n z m i c d e a f 1 b Q) (aq_.l16 k x y n z m i c d e a f 0 b Q))) (aq_.l18 k x y n z m 0 H Q):=zz
theorem aq_.l16_eq:aq_.l16 (k+1) x y n z m i j s h b t g H Q=rdN (pu H (.row true 5 [.int .u8 (ab_ .u8 h),.int .u8 g])) (some (ln H,0)) 2 λa=>txt a λa=>dx bk_ [.agg [.sl z m 5],t,a] (pu H (.row true 5 [.int .u8 (ab_ .u8 h),.int .u8 g])) 5 λa b c=>aq_.l9 k x y n b c (ab_ .i64 (i+1)) a Q:=zz
theorem aq_.l18_eq:aq_.l18 (k+1) x y n z m i H Q=eH x H 3 i (ew x H 3 0 i i (λa b=>aq H a (b+tN i*3+0) λa=>dt eF_ [a] H λa b=>ew x a 3 0 i i λc d=>aq a c (d+tN i*3+1) λe=>ah a c (d+tN i*3+1+1) λc=>dt eJ_ [.agg [e,c]] a λa c=>dx bk_ [.agg [.sl z m 5],b,c] a 5 λa b c=>aq_.l18 k x y n b c (ab_ .i64 (i+1)) a Q)) (eg Q [.sl z m 5] H):=zz
theorem oI_:am_ prog 167 (aq_):=sO (eZ n8_ func44 (eZ sy_ func208 (eZ td_ func209 (eZ vo_ func43 (eZ so_ func210 (eZ qS_ func211 (eZ qN_ func212 eN))))))) nO func167
def ck_.cx:Cx:=⟨tys,[],[],[],[(165,dO_),(166,bH_),(167,aq_)],ax_,[.cell 2 24]⟩
def ck_:=fF ck_.cx f122
theorem o8_:as_ ck_.cx f122 (k+1) [x] H Q=aG dO_ [x] H λa b=>av 60 b (cl bH_ [x] a (λ_ a=>bJ aq_ [x] a 5 λa b c=>eg Q [.sl b c 5] a)) (bJ aq_ [x] a 5 (λa b c=>eg Q [.sl b c 5] a)):=zz
theorem gX_:am_ prog 122 (ck_):=sO (eZ o3_ func165 (eZ nr_ func166 (eZ oI_ func167 eN))) nO func122
def a4_.cx:Cx:=⟨tys,[],[(12,[1,2,3,8,10,14,15,16,17])],[(18,[1,2,3,8,10,14])],[(28,bY_),(66,aw_),(37,bc_),(121,aG_),(52,aR_),(55,aO_),(122,ck_)],ax_,[.cell 8 24,.tmp 9]⟩
def a4_:=fF a4_.cx f70
def a4_.l12 k a b c d e f g h i j:=aV_ (a4_.cx) f70 12 k (.bad::gS a::gS b::gI c::B 4 (.bx [.sl d e 5]::.bad::gP f::B 3 (gI g::gI h::gI i::gI j::B 106 [])))
def a4_.l18 k a b c d e f g:=aV_ (a4_.cx) f70 18 k (.bad::gS a::gS b::gI c::B 4 (.bx [.sl d e 5]::.bad::gP f::B 3 (gI g::B 109 [])))
theorem ti_:as_ a4_.cx f70 (k+1) [.agg [.sl x n 5],s,t,i] H Q=dj bY_ [.agg [.sl x n 5]] H λa b c=>d8 b (ax Q [.a [.sl none 0 5],nN 2000] a) (aC aw_ [c] a 5 (λa b d=>bV bc_ [nL b d 5,s,t,i] a 5 λa b _ _=>cO b 0 Q (.a [.sl none 0 5]) a (aG aG_ [c] a (λa b=>dY t [] (dn c a 5 (λd e f g=>aG aR_ [c,t] a λa h=>bL a d (e+0) 5 (nL f g 5) (cK (leI 0 h&&ltI h (nI g)) f a (tN h*5) (λd=>dV c a 4 λ_ e=>a4_.l12 k s t i none 0 c b d (nI e) 0 a Q)))) (a4_.l18 k s t i none 0 c b a Q))))):=zz
theorem a4_.l12_eq:a4_.l12 (k+1) s t i x n y j h g I H Q=av I g (de y H 4 0 I I (λa b=>aq H a (b+tN I*4) λc=>ah H a (b+tN I*4+1) λd=>aq H a (b+tN I*4+1+1) λe=>aF H a (b+tN I*4+1+1+1) λ_=>bh c h (dV y H 4 (λa b=>eu H 87 4 40 a b [j,d,e,false] y λa=>pS y λb c=>aa a b (c+2) 3 λd f=>aG aO_ [y,e] a λa e=>aa a b (c+2) 3 λb c=>eqv (nL d f 3) (nL b c 3) (cK (leI 0 e&&ltI e (nI f)) d a (tN e*3) (λb=>aB (leI 0 e&&ltI e (nI f)) d λc d=>wr a c (d+tN e*3+1+0) (ab_ .i64 (b+1)) λa=>a4_.l12 k s t i x n y j h g (ab_ .i64 (I+1)) a Q)))) (a4_.l12 k s t i x n y j h g (ab_ .i64 (I+1)) H Q))) (a4_.l18 k s t i x n y j H Q):=zz
theorem a4_.l18_eq:a4_.l18 (k+1) s t i x n y j H Q=bw y H 5 λa b=>dA H 83 5 64 a b [s,j,i,t,mkS []] λa b c=>pS y λd e=>dq c d (e+0) a b 5 λa=>bK ck_ [y] a 5 Q (nN 0):=zz
theorem sM_:am_ prog 70 (a4_):=sO (eZ kq_ func28 (eZ dV_ func66 (eZ sz_ func37 (eZ mF_ func121 (eZ e7_ func52 (eZ dZ_ func55 (eZ gX_ func122 eN))))))) nO func70
def er_.cx:Cx:=⟨tys,[],[],[],[(95,ce_)],ax_,[.tmp 4,.tmp 5]⟩
def er_:=fF er_.cx f67
theorem t9_:as_ er_.cx f67 (k+1) [nL x n 5,s] H Q=aG ce_ [nL x n 5,s] H λa b=>en b 0 Q [nN 0,nN 1903] a (bZ (leI 0 b&&ltI b (nI n)) x a (tN b*5) (λc=>cp c 0 Q [nN 0,nN 1905] a (ax Q [b,nN 0] a))):=zz
theorem mc_:am_ prog 67 (er_):=sO (eZ kx_ func95 eN) nO func67
def ci_.cx:Cx:=⟨tys,[],[(2,[0,1,5])],[],[],ax_,[.tmp 4]⟩
def ci_:=fF ci_.cx f68
def ci_.l2 k a b c d:=aV_ (ci_.cx) f68 2 k (nL a b 3::gS c::B 3 (gI d::B 14 []))
theorem uc_:as_ ci_.cx f68 (k+1) [nL x n 3,s] H Q=ci_.l2 k x n s 0 H Q:=zz
theorem ci_.l2_eq:ci_.l2 (k+1) x n s i H Q=bX i n (bo (leI 0 i&&ltI i (nI n)) x H (tN i*3) (λa=>cR a s (Q i H) (ci_.l2 k x n s (ab_ .i64 (i+1)) H Q))) (dO Q .i64 (-1) H):=zz
theorem uC_:am_ prog 68 (ci_):=sO eN nO func68
def aZ_.cx:Cx:=⟨tys,[],[(22,[2,10,13,14,15,16])],[(26,[2,10,13,14,15,16]),(29,[10,13,15])],[(29,a3_),(51,bs_),(67,er_),(68,ci_),(53,cE_),(69,bf_)],ax_,[.tmp 8,.tmp 9]⟩
def aZ_:=fF aZ_.cx f23
def aZ_.l22 k a b c d e f g h i j:=aV_ (aZ_.cx) f23 22 k (.bad::.bad::gS a::B 7 (gI b::.bad::.bad::nL c d 5::.bx [.str e,.str f,.bool g]::nL h i 3::gI j::B 119 []))
def aZ_.l26 k a b c d e f g h i j:=aV_ (aZ_.cx) f23 26 k (.bad::.bad::gS a::B 7 (gI b::.bad::.bad::nL c d 5::.bx [.str e,.str f,.bool g]::nL h i 3::gI j::B 119 []))
def aZ_.l29 k a b c d e:=aV_ (aZ_.cx) f23 29 k (B 10 (gI a::.bad::.bad::nL b c 5::.bad::nL d e 3::B 120 []))
theorem w0_:as_ aZ_.cx f23 (k+1) [nL x n 5,s,t,r] H Q=dK a3_ [nL x n 5] H Q [.s (.sl none 0 5),nN 1900] bs_ [s] Q [.s (.sl none 0 5),nN 1901] λa=>bz er_ [nL x n 5,s] a λa b c=>cO b 0 Q (.s (.sl none 0 5)) a (bU (leI 0 c&&ltI c (nI n)) x a (tN c*5) 3 (λb d=>aG ci_ [nL b d 3,t] a λa b=>bq cE_ [t] a Q [.s (.sl none 0 5),nN 1907] λa=>en 6 (sz r) Q [.s (.sl none 0 5),nN 1909] a (av b 0 (bU (leI 0 c&&ltI c (nI n)) x a (tN c*5) 3 (λ_ d=>dQ 4 (nI d) Q [.s (.sl none 0 5),nN 1910] a (aC bf_ [nL x n 5] a 5 (λa d e=>aY 0 b (dm (leI 0 c&&ltI c (nI e)) d a (tN c*5) 3 0 b b (λc f=>aE a c (f+tN b*3) t c (f+tN b*3+1) r λa=>bt a c (f+tN b*3+1+1) true Q [.s (.sl d e 5),nN 0])) (aZ_.l22 k t c d e t r true none 0 0 a Q))))) (aC bf_ [nL x n 5] a 5 (λa d e=>aY 0 b (dm (leI 0 c&&ltI c (nI e)) d a (tN c*5) 3 0 b b (λc f=>aE a c (f+tN b*3) t c (f+tN b*3+1) r λa=>bt a c (f+tN b*3+1+1) true Q [.s (.sl d e 5),nN 0])) (aZ_.l22 k t c d e t r true none 0 0 a Q)))))):=zz
theorem aZ_.l22_eq:aZ_.l22 (k+1) s i x n t r b y m j H Q=aB (leI 0 i&&ltI i (nI n)) x λa c=>aX H a (c+tN i*5+4) 3 j (eF m j (dm (leI 0 i&&ltI i (nI n)) x H (tN i*5) 3 0 j j (λa c=>ah H a (c+tN j*3+0) λa=>aL (dy_ a s||gc_ a s) (dA H 108 3 40 y m [t,r,b] (λa c d=>aZ_.l26 k s i x n t r b a c j d Q)) (aZ_.l26 k s i x n t r b y m j H Q))) (aZ_.l26 k s i x n t r b y m j H Q)) (bU (leI 0 i&&ltI i (nI n)) x H (tN i*5) 3 (λ_ a=>eF m (nI a) (dA H 108 3 40 y m [t,r,b] (λa b c=>aZ_.l29 k i x n a b c Q)) (aZ_.l29 k i x n y m H Q))):=zz
theorem aZ_.l26_eq:aZ_.l26 (k+1) s i x n t r b y m j H Q=dm (leI 0 i&&ltI i (nI n)) x H (tN i*5) 3 0 j j λa c=>cA H a (c+tN j*3) H a (c+tN j*3+1) λd e=>aF H a (c+tN j*3+1+1) λa=>dA H 108 3 40 y m [d,e,a] λa c d=>aZ_.l22 k s i x n t r b a c (ab_ .i64 (j+1)) d Q:=zz
theorem aZ_.l29_eq:aZ_.l29 (k+1) i x n y m H Q=aB (leI 0 i&&ltI i (nI n)) x λa b=>bt H a (b+tN i*5+4) (.sl y m 3) Q [.s (.sl x n 5),nN 0]:=zz
theorem wO_:am_ prog 23 (aZ_):=sO (eZ fO_ func29 (eZ dK_ func51 (eZ mc_ func67 (eZ uC_ func68 (eZ gP_ func53 (eZ kU_ func69 eN)))))) nO func23
def aX_.cx:Cx:=⟨tys,[],[(2,[0,3])],[],[(55,aO_)],ax_,[.tmp 2]⟩
def aX_:=fF aX_.cx f124
def aX_.l2 k a b:=aV_ (aX_.cx) f124 2 k (gP a::.bad::.bad::gI b::B 9 [])
theorem kE_:as_ aX_.cx f124 (k+1) [x] H Q=aX_.l2 k x 1 H Q:=zz
theorem aX_.l2_eq:aX_.l2 (k+1) x i H Q=aY i 255 (aG aO_ [x,i] H (λa b=>av b 0 (Q i a) (aX_.l2 k x (ab_ .i64 (i+1)) a Q))) (Q (nN 0) H):=zz
theorem kS_:am_ prog 124 (aX_):=sO (eZ dZ_ func55 eN) nO func124
def cs_.cx:Cx:=⟨tys,[],[],[(10,[1,2,3,8,10])],[(28,bY_),(66,aw_),(23,aZ_),(54,a6_),(123,aF_),(124,aX_),(52,aR_),(122,ck_)],ax_,[.cell 8 24,.tmp 9]⟩
def cs_:=fF cs_.cx f71
def cs_.l10 k a b c d e f:=aV_ (cs_.cx) f71 10 k (.bad::gS a::gS b::gS c::B 4 (.bx [.sl d e 5]::.bad::gP f::B 75 []))
theorem v6_:as_ cs_.cx f71 (k+1) [.agg [.sl x n 5],s,t,r] H Q=dj bY_ [.agg [.sl x n 5]] H λa b c=>d8 b (ax Q [.a [.sl none 0 5],nN 2000] a) (aC aw_ [c] a 5 (λa b d=>bV aZ_ [nL b d 5,s,t,r] a 5 λa b _ _=>cO b 0 Q (.a [.sl none 0 5]) a (aG a6_ [c,s,t] a (λa b=>aY 0 b (cl aF_ [c,b] a (λ_ a=>cs_.l10 k s t r none 0 c a Q)) (cs_.l10 k s t r none 0 c a Q))))):=zz
theorem cs_.l10_eq:cs_.l10 (k+1) s t r x n y H Q=aG aX_ [y] H λa b=>cI y a 3 λc d=>dA a 65 3 32 c d [b,nN 1,r] λa c d=>pS y λe f=>dq d e (f+2) a c 3 λa=>pS y λc d=>aa a c (d+1) 4 λe f=>dn y a 5 λg h i j=>aG aR_ [y,s] a λa l=>bL a g (h+0) 5 (nL i j 5) (aa a c (d+1) 4 (λc d=>eqv (nL e f 4) (nL c d 4) (cK (leI 0 l&&ltI l (nI j)) i a (tN l*5) (λc=>eu a 87 4 40 e f [c,t,b,true] y λa=>bK ck_ [y] a 5 Q (nN 0))))):=zz
theorem xc_:am_ prog 71 (cs_):=sO (eZ kq_ func28 (eZ dV_ func66 (eZ wO_ func23 (eZ mQ_ func54 (eZ ja_ func123 (eZ kS_ func124 (eZ e7_ func52 (eZ gX_ func122 eN)))))))) nO func71
def bP_.cx:Cx:=⟨tys,[],[(3,[0,1,5,6])],[],[],ax_,[.tmp 4]⟩
def bP_:=fF bP_.cx f97
def bP_.l3 k a b c d e f:=aV_ (bP_.cx) f97 3 k (nL a b 5::gI c::B 3 (nL d e 5::gI f::B 17 []))
theorem sQ_:as_ bP_.cx f97 (k+1) [nL x n 5,i] H Q=bP_.l3 k x n i none 0 0 H Q:=zz
theorem bP_.l3_eq:bP_.l3 (k+1) x n i y m j H Q=bX j n (bf j i (cY (leI 0 j&&ltI j (nI n)) x H (tN j*5) H H H H 3 (λa b c d e f=>dA H 52 5 80 y m [a,b,c,d,.sl e f 3] λa b c=>bP_.l3 k x n i a b (ab_ .i64 (j+1)) c Q)) (bP_.l3 k x n i y m (ab_ .i64 (j+1)) H Q)) (dz Q y m 5 H):=zz
theorem sH_:am_ prog 97 (bP_):=sO eN nO func97
def fX_.cx:Cx:=⟨tys,[],[],[],[(29,a3_),(51,bs_),(67,er_),(95,ce_),(69,bf_),(97,bP_),(96,a2_)],ax_,[.tmp 6,.tmp 7]⟩
def fX_:=fF fX_.cx f38
theorem ui_:as_ fX_.cx f38 (k+1) [nL x n 5,s,t] H Q=dK a3_ [nL x n 5] H Q [.s (.sl none 0 5),nN 1900] bs_ [s] Q [.s (.sl none 0 5),nN 1901] λa=>bq bs_ [t] a Q [.s (.sl none 0 5),nN 1901] λa=>bz er_ [nL x n 5,s] a λa b c=>cO b 0 Q (.s (.sl none 0 5)) a (aG ce_ [nL x n 5,t] a (λa b=>dQ 0 b Q [.s (.sl none 0 5),nN 1902] a (aC bf_ [nL x n 5] a 5 (λa b d=>bC (leI 0 c&&ltI c (nI d)) b a (tN c*5) λe f _=>aq a e (f+tN c*5+1) λ_=>cA a e (f+tN c*5+1+1) a e (f+tN c*5+1+1+1) λg h=>aa a e (f+tN c*5+1+1+1+1) 3 λe f=>d7 bP_ [nL b d 5,c] a 5 a2_ [t,nN 2,g,h,.sl e f 3] 5 Q (nN 0))))):=zz
theorem uu_:am_ prog 38 (fX_):=sO (eZ fO_ func29 (eZ dK_ func51 (eZ mc_ func67 (eZ kx_ func95 (eZ kU_ func69 (eZ sH_ func97 (eZ pt_ func96 eN))))))) nO func38
def e6_.cx:Cx:=⟨tys,[],[],[],[(28,bY_),(66,aw_),(38,fX_),(52,aR_),(122,ck_)],ax_,[.cell 6 24,.tmp 7]⟩
def e6_:=fF e6_.cx f72
theorem uI_:as_ e6_.cx f72 (k+1) [.agg [.sl x n 5],s,t] H Q=dj bY_ [.agg [.sl x n 5]] H λa b c=>d8 b (ax Q [.a [.sl none 0 5],nN 2000] a) (aC aw_ [c] a 5 (λa b d=>bV fX_ [nL b d 5,s,t] a 5 λa b _ _=>cO b 0 Q (.a [.sl none 0 5]) a (aG aR_ [c,s] a (λa b=>cD c a 5 0 b b λd e=>wr a d (e+tN b*5+0) t λa=>cD c a 5 0 b b λd e=>wr a d (e+tN b*5+1+1) (nN 2) λa=>bK ck_ [c] a 5 Q (nN 0))))):=zz
theorem t2_:am_ prog 72 (e6_):=sO (eZ kq_ func28 (eZ dV_ func66 (eZ uu_ func38 (eZ e7_ func52 (eZ gX_ func122 eN))))) nO func72
def en_.cx:Cx:=⟨tys,[],[],[],[(44,gt_),(70,a4_),(71,cs_),(72,e6_)],ax_,[.cell 0 24]⟩
def en_:=fF en_.cx f26
theorem uK_:as_ en_.cx f26 (k+1) [] H Q=bJ gt_ [] H 5 λa b c=>dU a4_ [.agg [.sl b c 5],mkS [119],mkS [],nN 0] a 5 cs_ (mkS [119]) (mkS [97]) (mkS [111,110,101]) 5 λa b c=>dU e6_ [.agg [.sl b c 5],mkS [119],mkS [98,97,115,101]] a 5 a4_ (mkS [119,111,114,107]) (mkS [98,97,115,101]) (nN 0) 5 λa b c=>dx cs_ [.agg [.sl b c 5],mkS [119,111,114,107],mkS [98],mkS [116,119,111]] a 5 λa b c=>eg Q [.sl b c 5] a:=zz
theorem mr_:am_ prog 26 (en_):=sO (eZ n8_ func44 (eZ sM_ func70 (eZ xc_ func71 (eZ t2_ func72 eN)))) nO func26
end Go.Am
namespace Go.Am
open List
open Go.Proofs.Tryz
variable{E:Nat->Sm}{k:Nat}{H:Hp}{Q:Post}{U X Y Z u w x x1 y z:Pl}{D L M N O l m n n1 o:Nat}{I g h i j:Int}{C b b1 b2 c d:Bool}{R S e r s t:ByteArray}{A a:Option Nat}{p q:List (Nat×Nat)}{F:Sm}
def gp_.cx E:=(⟨tys,[],[],[],[(26,en_),(15,(eD_ E)),(17,dA_),(21,e2_),(18,dS_),(19,fv_)],E,[.tmp 0]⟩:Cx)
def gp_ E:=fF (gp_.cx E) f22
theorem wR_:as_ (gp_.cx E) f22 (k+1) [] H Q=bJ en_ [] H 5 λa b c=>bI (eD_ E) [.agg [.sl b c 5],mkS [119,111,114,107],mkS [97]] a λa d e=>bj d λd=>bY dA_ [.agg [.sl b c 5],mkS [119,111,114,107],mkS [97],mkS [115,105,120]] a 5 λa f g h=>bj f λf=>bV e2_ [.agg [.sl g h 5]] a 5 λa g h i=>aW g (bY dS_ [.agg [.sl b c 5],mkS [119,111,114,107],mkS [98]] a 5 (λa g j l=>bj g λg=>bV e2_ [.agg [.sl j l 5]] a 5 λa j l m=>aW j (bg dA_ [.agg [.sl b c 5],mkS [98,97,115,101],mkS [97],mkS []] a (λa j n=>aA n 5 λn _ _=>uN n (bj j (λj=>bI (eD_ E) [.agg [.sl b c 5],mkS [98,97,115,101],mkS [122]] a λa b _=>bj b λb=>bI (eD_ E) [.agg [.sl none 0 5],mkS [98,97,115,101],mkS [97]] a λa c _=>bj c λc=>bf (nI i) 2 (aV Q a) (bf (nI m) 2 (aV Q a) (bU (leI 0 0&&ltI 0 (nI i)) h a (tN 0*5) 3 (λ_ n=>bf (nI n) 1 (aV Q a) (bU (leI 0 1&&ltI 1 (nI i)) h a (tN 1*5) 3 (λ_ n=>bf (nI n) 2 (aV Q a) (dW e [111,110,101] (aG fv_ [d] a (λa d=>bh d 0 (bU (leI 0 1&&ltI 1 (nI i)) h a (tN 1*5) 3 (λd e=>dC (leI 0 0&&ltI 0 (nI e)) d a (tN 0*3) λd=>dW d [115,105,120] (bU (leI 0 0&&ltI 0 (nI i)) h a (tN 0*5) 3 (λd e=>dC (leI 0 0&&ltI 0 (nI e)) d a (tN 0*3) λd=>dW d [111,110,101] (aG fv_ [f] a (λa d=>bh d 0 (bU (leI 0 1&&ltI 1 (nI m)) l a (tN 1*5) 3 (λ_ d=>eF d 1 (aG fv_ [g] a (λa d=>bh d 0 (aG fv_ [j] a (λa d=>bh d 1905 (aG fv_ [b] a (λa b=>bh b 1908 (aG fv_ [c] a (λa b=>cZ Q b 2000 a)) (aV Q a))) (aV Q a))) (aV Q a))) (aV Q a))) (aV Q a))) (aV Q a))) (aV Q a))) (aV Q a))) (aV Q a))))))))))))):=zz
theorem vc_(E)(h:eE E):am_ prog 22 (gp_ E):=sO (eZ mr_ func26 (eZ (pj_ E h) func15 (eZ vd_ func17 (eZ wU_ func21 (eZ ut_ func18 (eZ ts_ func19 eN)))))) h func22
def e3_.cx E:=(⟨tys,[13,14,15],[],[],[(22,(gp_ E)),(26,en_),(15,(eD_ E)),(19,fv_)],E,[.tmp 2]⟩:Cx)
def e3_ E:=fF (e3_.cx E) f5
theorem ok_:as_ (e3_.cx E) f5 (k+1) [i] H Q=di (gp_ E) [] H Q λa=>bJ en_ [] a 5 λa b c=>ak (leI 0 (ab_ .i64 (Int.tmod (ab_ .u64 i) 7))&&ltI (ab_ .i64 (Int.tmod (ab_ .u64 i) 7)) (nI 7)) (ah (pu (pu (pu a (.row true 9 [mkS [],mkS [66],mkS [110,111,110,101],mkS [98,97,115,101],mkS [98,97,115,101],mkS [119,111,114,107],mkS [119,111,114,107]])) (.row true 9 [mkS [],mkS [97],mkS [],mkS [],mkS [98],mkS [108,111,110,103],mkS [99]])) (.row true 3 [nN 1901,nN 1901,nN 1903,nN 1907,nN 1908,nN 1907,nN 1908])) (ln a) (0+tN (ab_ .i64 (Int.tmod (ab_ .u64 i) 7))*1) (λd=>ak (leI 0 (ab_ .i64 (Int.tmod (ab_ .u64 i) 7))&&ltI (ab_ .i64 (Int.tmod (ab_ .u64 i) 7)) (nI 7)) (ah (pu (pu (pu a (.row true 9 [mkS [],mkS [66],mkS [110,111,110,101],mkS [98,97,115,101],mkS [98,97,115,101],mkS [119,111,114,107],mkS [119,111,114,107]])) (.row true 9 [mkS [],mkS [97],mkS [],mkS [],mkS [98],mkS [108,111,110,103],mkS [99]])) (.row true 3 [nN 1901,nN 1901,nN 1903,nN 1907,nN 1908,nN 1907,nN 1908])) (ln (pu a (.row true 9 [mkS [],mkS [66],mkS [110,111,110,101],mkS [98,97,115,101],mkS [98,97,115,101],mkS [119,111,114,107],mkS [119,111,114,107]]))) (0+tN (ab_ .i64 (Int.tmod (ab_ .u64 i) 7))*1) (λe=>bI (eD_ E) [.agg [.sl b c 5],d,e] (pu (pu (pu a (.row true 9 [mkS [],mkS [66],mkS [110,111,110,101],mkS [98,97,115,101],mkS [98,97,115,101],mkS [119,111,114,107],mkS [119,111,114,107]])) (.row true 9 [mkS [],mkS [97],mkS [],mkS [],mkS [98],mkS [108,111,110,103],mkS [99]])) (.row true 3 [nN 1901,nN 1901,nN 1903,nN 1907,nN 1908,nN 1907,nN 1908])) λb c d=>bj c λc=>dW d [] (ak (leI 0 (ab_ .i64 (Int.tmod (ab_ .u64 i) 7))&&ltI (ab_ .i64 (Int.tmod (ab_ .u64 i) 7)) (nI 7)) (aq b (ln (pu (pu a (.row true 9 [mkS [],mkS [66],mkS [110,111,110,101],mkS [98,97,115,101],mkS [98,97,115,101],mkS [119,111,114,107],mkS [119,111,114,107]])) (.row true 9 [mkS [],mkS [97],mkS [],mkS [],mkS [98],mkS [108,111,110,103],mkS [99]]))) (0+tN (ab_ .i64 (Int.tmod (ab_ .u64 i) 7))*1) (λd=>aG fv_ [c] b λb c=>aq b (ln (pu (pu a (.row true 9 [mkS [],mkS [66],mkS [110,111,110,101],mkS [98,97,115,101],mkS [98,97,115,101],mkS [119,111,114,107],mkS [119,111,114,107]])) (.row true 9 [mkS [],mkS [97],mkS [],mkS [],mkS [98],mkS [108,111,110,103],mkS [99]]))) (0+tN (ab_ .i64 (Int.tmod (ab_ .u64 i) 7))*1) λa=>eqv d a (cZ Q c d b)))) (aV Q b))))):=zz
theorem nd_(E)(h:eE E):am_ prog 5 (e3_ E):=sO (eZ (vc_ E h) func22 (eZ mr_ func26 (eZ (pj_ E h) func15 (eZ ts_ func19 eN)))) h func5
end Go.Am
namespace Go.Am
open List
open Go.Proofs.Tryz
variable{E:Nat->Sm}{k:Nat}{H:Hp}{Q:Post}{U X Y Z u w x x1 y z:Pl}{D L M N O l m n n1 o:Nat}{I g h i j:Int}{C b b1 b2 c d:Bool}{R S e r s t:ByteArray}{A a:Option Nat}{p q:List (Nat×Nat)}{F:Sm}
end Go.Am
namespace Go.Am
open List
theorem oo_:cM_ ((f,s)::l) f=s:=by simp[cM_]
theorem qi_(h:f≠g):cM_ ((g,s)::l) f=cM_ l f:=by
 unfold cM_;grind
theorem ps_(r:Q (gB (decide (1<=s.size)&&decide (s.size<=6))) H):df_ [gS s] H Q:=by
 refine⟨1,?_⟩;rw[BU_];refine aa_ (λh=>?_) λh=>?_
 .simp[kv_]at h ⊢;rw[lE (show 1<=s.size by omega),Bool.true_and]at r;rw[show decide ((s.size:Int)<=6)=decide (s.size<=6) by rw[decide_eq_decide];omega];exact r
 .simp[kv_]at h;grind
theorem mb_(h:Q (gB (decide (s.size<=10))) H):cj_ [gS s] H Q:=by
 refine⟨1,?_⟩;rw[xt_];simp[kv_];rw[show decide ((s.size:Int)<=10)=decide (s.size<=10) by rw[decide_eq_decide];omega];exact h
theorem xC_(r:Q (gB (decide (1<=k)&&decide (k<48))) H):dE_ [gI k] H Q:=by
 refine⟨1,?_⟩;rw[BQ_];refine aa_ (λh=>?_) λh=>?_
 .simp_all
 .simp at h;grind
def ib_(xs:List Y_):Prop:=∀i,(h:i+1<xs.length)->dy_ (xs[i]'o_) xs[i+1]=true
theorem rO_ (h:Ss H a n xs) (F:∀b,(b=true↔ib_ xs)->Q (gB b) H):
 ∀m k:Nat,xs.length-k=m->(∀i,(hi:i+1<xs.length)->i<k->dy_ (xs[i]'o_) xs[i+1]=true)->∃f,cG_.l2 f a n ((k+1:Nat):Int) H Q:=by
 intro m;have U:=h.len;have G:=h.lim;induction m with
 |zero=>
  refine λk I C=>⟨1,?_⟩;rw[cG_.l2_eq,show ltI ((k+1:Nat)) (nI n)=false by simp;omega,gE_];exact F true ⟨λ_ i hi=>C i hi o_,λ_=>rfl⟩
 | succ m O=>
  intro k I C;by_cases r:k+1<xs.length
  ·have A:ltI ((k+1:Nat)) (nI n)=true:=by simp;omega
   cases D:dy_ (xs[k]'o_) xs[k+1] with
   | true=>
    have⟨f,N⟩:=O (k+1) o_ (λi hi J=>by
     by_cases e:i=k
     .grind
     .exact C i hi o_)
    refine⟨f+1,?_⟩;rw[cG_.l2_eq,az_ A,af_,h.rd k (ea_ o_) o_,af_,h.rd (k+1) rfl r,aE_ g_,ap_ o_];exact N
   |false=>
    refine⟨1,?_⟩;rw[cG_.l2_eq,az_ A,af_,h.rd k (ea_ o_) o_,af_,h.rd (k+1) rfl r,az_ (by rw[D];rfl)];refine F false ⟨λq=>(by cases q),λq=>?_⟩;rw[q k r]at D;cases D
  .refine⟨1,?_⟩;rw[cG_.l2_eq,show ltI ((k+1:Nat)) (nI n)=false by simp;omega,gE_];exact F true ⟨λ_ i hi=>C i hi o_,λ_=>rfl⟩
theorem sX_(h:Ss H a n xs)(A:∀b,(b=true↔ib_ xs)->Q (gB b) H):cG_ [nL a n 1] H Q:=by
 have⟨f,r⟩:=rO_ h A _ 0 rfl (λi C h=>by omega);exact⟨f+1,r⟩
theorem lO_{p:Y_->Bool}(A:∀(s:Y_)(H:Hp)(Q:Post),Q (gB (p s)) H->E f [gS s] H Q)(h:gt H l 0=some (.fn f []))
 (r:Q (gB (!(p s))) H):c0_ E [gS s,yQ l] H Q:=by
 refine⟨1,?_⟩;rw[nv_,ae_ h,In_];exact A s H _ r
theorem rs_ {p:Y_->Bool} (I:∀(s:Y_)(Q:Post),Q (gB (p s)) H->E g [gS s,yQ l] H Q)
 (h:Ss H a n xs) (V:∀i:Int,(0<=i↔∃s∈xs,p s=true)->Q (gI i) H):
 ∀m k:Nat,xs.length-k=m->k<=xs.length->(∀i,(hi:i<xs.length)->i<k->p xs[i]=false)->∃f,aJ_.l2 E f a n g [(l,0)] (nI n) (k:Int) H Q:=by
 intro m;have Y:=h.len;have F:=h.lim;induction m with
 |zero=>
  refine λk J D G=>⟨1,?_⟩;rw[aJ_.l2_eq,show ltI k (nI n)=false by simp;omega,gE_];refine V _ ⟨λq=>by omega,fun⟨s,C,W⟩=>?_⟩;obtain⟨i,hi,rfl⟩:=kK C;grind
 | succ m U=>
  intro k J D G;have r:k<xs.length:=by omega
  have A:ltI k (nI n)=true:=by simp;omega
  cases C:p xs[k] with
  | false=>
   have⟨f,O⟩:=U (k+1) o_ o_ (λi hi N=>by
    by_cases e:i=k
    .grind
    .exact G i hi o_)
   refine⟨f+1,?_⟩;rw[aJ_.l2_eq,az_ A,af_,h.rd k rfl r];refine I _ _ ?_;rw[aP_,an_,C,gE_,ap_ o_];exact O
  |true=>
   refine⟨1,?_⟩;rw[aJ_.l2_eq,az_ A,af_,h.rd k rfl r];refine I _ _ ?_;rw[aP_,an_,C,oF_];grind
theorem iR_ {p:Y_->Bool} (O:∀(s:Y_)(H:Hp)(Q:Post),Q (gB (p s)) H->E f [gS s] H Q)
 (h:Ss H a n xs) (D:∀b H',H<+:H'->(b=true↔∀s∈xs,p s=true)->Q (gB b) H'):ec_ E [nL a n 1,.g (.fn f [])] H Q:=by
 refine⟨1,?_⟩;have F:=b4_ H (.row true Ki_ [.fn f []]);refine⟨1,?_⟩;have⟨k,N⟩:=rs_ (E:=cM_ [(Iy_,c0_ E)]) (g:=Iy_) (l:=H.length)
  (λs Q D=>lO_ O (by simp[gt]) D) (Q:=λr J=>rG r λC=>dI .i64 C λI=>rG (gB (leI 0 I)) λC=>dB C λb3=>Q (gB (!b3)) J) (h.mono F)
  (fun i G=>by
   rw[aP_,aj_,aP_,an_];refine D _ _ F ?_;simp only[kv_,Bool.not_eq_true',decide_eq_false_iff_not];rw[G];constructor
   .intro q s A;cases e:p s with
    |true=>rfl
    |false=>exact (q ⟨s,A,g_⟩).elim
   .rintro q ⟨s,A,e⟩;rw[q s A]at e;cases e) _ 0 rfl (kP _) (λi G h=>by omega)
 exact⟨k+1,N
⟩
theorem oW_{p:Int->Bool}(A:∀(s:Int)(H:Hp)(Q:Post),Q (gB (p s)) H->E f [gI s] H Q)(h:gt H l 0=some (.fn f []))
 (r:Q (gB (!(p s))) H):d0_ E [gI s,yQ l] H Q:=by
 refine⟨1,?_⟩;rw[qz_,ae_ h,In_];exact A s H _ r
theorem w3_ {p:Int->Bool} {g l:Nat} (I:∀(s:Int)(Q:Post),Q (gB (p s)) H->E g [gI s,yQ l] H Q)
 (h:Is H a n xs) (V:∀i:Int,(0<=i↔∃s∈xs,p s=true)->Q (gI i) H):
 ∀m k:Nat,xs.length-k=m->k<=xs.length->(∀i,(hi:i<xs.length)->i<k->p xs[i]=false)->∃f,aY_.l2 E f a n g [(l,0)] (nI n) (k:Int) H Q:=by
 intro m;have Y:=h.len;have F:=h.lim;induction m with
 |zero=>
  refine λk J D G=>⟨1,?_⟩;rw[aY_.l2_eq,show ltI k (nI n)=false by simp;omega,gE_];refine V _ ⟨λq=>by omega,fun⟨s,C,W⟩=>?_⟩;obtain⟨i,hi,rfl⟩:=kK C;grind
 | succ m U=>
  intro k J D G;have r:k<xs.length:=by omega
  have A:ltI k (nI n)=true:=by simp;omega
  cases C:p xs[k] with
  | false=>
   have⟨f,O⟩:=U (k+1) o_ o_ (λi hi N=>by
    by_cases e:i=k
    .grind
    .exact G i hi o_)
   refine⟨f+1,?_⟩;rw[aY_.l2_eq,az_ A,af_,h.rd k rfl r];refine I _ _ ?_;rw[aP_,an_,C,gE_,ap_ o_];exact O
  |true=>
   refine⟨1,?_⟩;rw[aY_.l2_eq,az_ A,af_,h.rd k rfl r];refine I _ _ ?_;rw[aP_,an_,C,oF_];grind
theorem rn_ {p:Int->Bool} (O:∀(s:Int)(H:Hp)(Q:Post),Q (gB (p s)) H->E f [gI s] H Q)
 (h:Is H a n xs) (D:∀b H',H<+:H'->(b=true↔∀s∈xs,p s=true)->Q (gB b) H'):gF_ E [nL a n 1,.g (.fn f [])] H Q:=by
 refine⟨1,?_⟩;have F:=b4_ H (.row true Km_ [.fn f []]);refine⟨1,?_⟩;have⟨k,N⟩:=w3_ (E:=cM_ [(Iu_,d0_ E)]) (g:=Iu_) (l:=H.length)
  (λs Q D=>oW_ O (by simp[gt]) D) (Q:=λr J=>rG r λC=>dI .i64 C λI=>rG (gB (leI 0 I)) λC=>dB C λb3=>Q (gB (!b3)) J) (h.mono F)
  (fun i G=>by
   rw[aP_,aj_,aP_,an_];refine D _ _ F ?_;simp only[kv_,Bool.not_eq_true',decide_eq_false_iff_not];rw[G];constructor
   .intro q s A;cases e:p s with
    |true=>rfl
    |false=>exact (q ⟨s,A,g_⟩).elim
   .rintro q ⟨s,A,e⟩;rw[q s A]at e;cases e) _ 0 rfl (kP _) (λi G h=>by omega)
 exact⟨k+1,N⟩
def Ir_(zs:List Int):Prop:=∀i,(h:i+1<zs.length)->zs[i]'o_≠zs[i+1]
theorem Is.row{C:List Int}(h:H[l]?=some (.row own t (C.map (GV.int .i64))))(D:o+n=C.length)(r:n*8<=140737488351232):Is H (some (l,o)) n (C.drop o):=
 ⟨by simp only[cells?,h];rw[if_pos g_];rw[<-map_drop,<-map_take,k7 g_],g_,r⟩
theorem CN_ {H0:Hp} {l n o n2:Nat} {Q:Post} (hb:H0.length<=l) (hlim:n*8<=140737488351232) (hon:o+n2=n) (hQ:∀(j:Nat) H',H0<+:H'->j<n->Q (nL (some (l,0)) j 1) H'):
 ∀(m' m j:Nat)(H:Hp)(ws:List Int),n2-m=m'->1<=m->m<=n2->1<=j->j+1<=o+m->H0<+:H->H[l]?=some (.row true tI (ws.map (GV.int .i64)))->ws.length=n->
  ∃f,ar_.l9 f (some (l,0)) n (j:Int) (some (l,o)) n2 (m:Int) H Q:=by
 intro m';induction m' with
 | zero=>
  intro m j H ws hm h1 h2 hj hjo h0 hrow hw;refine⟨1,?_⟩;obtain⟨d,hd⟩:∃d,n-j=d+1:=⟨n-j-1,o_⟩;rw[ar_.l9_eq,aE_ s_,af_];refine ac_ t_ (ac_ s_ ?_);simp only[C5_,Int.toNat_natCast,Nat.mul_one,wK_,kN,af_,hd];show (match H[l]? with
   |some (.row true t cs)=>j+(d+1)*1<=cs.length/\_
   |_=>False)
  rw[hrow];refine⟨s_,ac_ t_ (ac_ s_ ?_)⟩;exact hQ j _ (dD_ h0 hb _) o_
 | succ m' ih=>
  intro m j H ws hm h1 h2 hj hjo h0 hrow hw;have hI:=Is.row (o:=o) (n:=n2) hrow o_ o_;have hmn:m<(ws.drop o).length:=by simp;omega
  obtain⟨m1,rfl⟩:∃m1,m=m1+1:=⟨m-1,o_⟩;have hm1:m1<(ws.drop o).length:=by omega
  have hlt:ltI ((m1+1:Nat):Int) (nI n2)=true:=by simp;omega
  by_cases he:(ws.drop o)[m1+1]=(ws.drop o)[m1]
  .obtain⟨f,hf⟩:=ih (m1+1+1) j H ws o_ o_ o_ hj o_ h0 hrow hw;refine⟨f+1,?_⟩;rw[ar_.l9_eq,az_ hlt,af_,hI.rd (m1+1) rfl hmn,af_,hI.rd m1 (ea_ o_) hm1,aE_ (by simpa using he),ap_ o_];exact hf
  ·have hjn:j<(ws.map (GV.int .i64)).length:=by simp;omega
   obtain⟨f,hf⟩:=ih (m1+1+1) (j+1) (H.set l (.row true tI ((ws.set j (ws.drop o)[m1+1]).map (GV.int .i64)))) (ws.set j (ws.drop o)[m1+1]) o_ o_ o_ o_ o_ (dD_ h0 hb _)
    (by rw[kH];exact (kC.1 hrow).1) (by simpa using hw)
   refine⟨f+1,?_⟩;rw[ar_.l9_eq,az_ hlt,af_,hI.rd (m1+1) rfl hmn,af_,hI.rd m1 (ea_ o_) hm1,az_ (by simpa using he),af_,hI.rd (m1+1) rfl hmn,af_];refine ac_ s_ ?_;simp only[C5_,Int.toNat_natCast,Nat.mul_one,ad_,kN];rw[qv_ hrow hjn,ap_ o_,ap_ o_];rw[List.map_set]at hf;exact hf
theorem zP_ {H0 H:Hp} {l:Nat} {zs:List Int} {Q:Post} (h0:H0<+:H) (hb:H0.length<=l) (hrow:H[l]?=some (.row true tI (zs.map (GV.int .i64)))) (hlim:zs.length*8<=140737488351232)
 (hQ:∀(a:Pl)(j:Nat) H',H0<+:H'->(j=zs.length↔Ir_ zs)->Q (nL a j 1) H'):ar_ [nL (some (l,0)) zs.length 1] H Q:=by
 have hI:=Is.row (o:=0) (n:=zs.length) hrow o_ hlim;rw[drop_zero]at hI;have loop:∀m k:Nat,zs.length-k=m->k+1<=zs.length->(∀i,(h:i+1<zs.length)->i<k->zs[i]'o_≠zs[i+1])->∃f,ar_.l4 f (some (l,0)) zs.length ((k+1:Nat):Int) H Q:=by
  intro m;induction m with
  |zero=>intro k hm hk;omega
  | succ m ih=>
   intro k hm hk hne;by_cases hkn:k+1<zs.length
   ·have hlt:ltI ((k+1:Nat):Int) (nI zs.length)=true:=by simp;omega
    by_cases he:zs[k+1]=zs[k]'o_
    ·obtain⟨f,hf⟩:=CN_ (H0:=H0) (l:=l) (n:=zs.length) (o:=k+1) (n2:=zs.length-(k+1)) (Q:=Q) hb hlim o_ (λj H' h1 h2=>hQ _ j H' h1 ⟨λe=>by omega,λq=>(q k hkn he.symm).elim⟩)
      _ 1 (k+1) H zs rfl o_ o_ o_ o_ h0 hrow rfl
     refine⟨f+1,?_⟩;rw[ar_.l4_eq,az_ hlt,af_,hI.rd (k+1) rfl hkn,af_,hI.rd k (ea_ o_) o_,az_ (by simpa using he),af_];refine ac_ s_ (ac_ s_ ?_);simp only[C5_,Int.toNat_natCast,Nat.mul_one,wK_,kN];exact hf
    ·obtain⟨f,hf⟩:=ih (k+1) o_ o_ (λi hi hik=>by
      by_cases e:i=k
      .subst e;exact λq=>he q.symm
      .exact hne i hi o_)
     refine⟨f+1,?_⟩;rw[ar_.l4_eq,az_ hlt,af_,hI.rd (k+1) rfl hkn,af_,hI.rd k (ea_ o_) o_,aE_ (by simpa using he),ap_ o_];exact hf
   .refine⟨1,?_⟩;rw[ar_.l4_eq,aE_ s_];exact hQ _ _ _ h0 ⟨λ_ i hi=>hne i hi o_,λ_=>rfl⟩
 by_cases h2:zs.length<2
 .refine⟨1,?_⟩;rw[eN_,az_ s_];exact hQ _ _ _ h0 ⟨λ_ i hi=>by omega,λ_=>rfl⟩
 .obtain⟨f,hf⟩:=loop _ 0 rfl o_ (λi hi h=>by omega);refine⟨f+1,?_⟩;rw[eN_,aE_ s_];exact hf
theorem zw_ {zs:List Int}:Ir_ (zs.mergeSort λx y=>decide (x<=y))↔zs.Nodup:=by
 have G:=mergeSort_perm zs λx y=>decide (x<=y);have A:(zs.mergeSort λx y=>decide (x<=y)).Pairwise λx y=>x<=y:=by
  have:=pairwise_mergeSort (le:=λ(x y:Int)=>decide (x<=y)) (λa b c D C=>by grind) (λa b=>by simp;omega) zs;grind
 rw[<-G.nodup_iff];generalize (zs.mergeSort λx y=>decide (x<=y))=ws at A;constructor
 ·intro h;rw[Nodup,kS];have key:∀d i,(r:i+d+1<ws.length)->ws[i]'o_<ws[i+d+1]:=by
   intro d;induction d with
   |zero=>
    intro i r;have D:=(kS.1 A) i (i+1) o_ o_ o_;have C:=h i o_;grind
   |succ d F=>
    intro i r;have D:=F i o_;have C:=(kS.1 A) (i+d+1) (i+(d+1)+1) o_ o_ o_;omega
  intro i j r J I;obtain⟨d,rfl⟩:∃d,j=i+d+1:=⟨j-i-1,o_⟩;grind
 .exact λh i r=>(kS.1 h) i (i+1) o_ o_ o_
theorem sY_ (h:Is H a n zs) (U:∀b H',H<+:H'->(b=true↔zs.Nodup)->Q (gB b) H'):gg_ E [nL a n 1] H Q:=by
 refine⟨1,?_⟩;rw[wE_];refine⟨1,⟨1,?_⟩⟩;rw[n5_];refine⟨1,?_⟩;rw[mW_];have C:=h.len;have G:=h.lim;have J:=b4_ H (.row true tIs [.sl a n 1]);refine⟨H.length,tIs,[.sl a n 1],a,n,zs,rfl,t_,rfl,(h.mono J).cells,by unfold Lim;omega,λI=>?_,λI=>?_⟩
 .simp[aP_];refine .inl ⟨rfl,⟨1,?_⟩⟩;rw[eN_,az_ t_];simp_all
 ·simp only[aP_,ah_];refine .inr ⟨(H++[Obj.row true tIs [.sl a n 1]]).length,zs,rfl,I,by unfold Lim;omega,t_,?_⟩;have e:((H++[Obj.row true tIs [.sl a n 1]])++[Obj.row true tI (zs.map (GV.int .i64))]).set (H++[Obj.row true tIs [.sl a n 1]]).length (Obj.row true tI ((zs.mergeSort λx y=>decide (x<=y)).map (GV.int .i64)))=
   (H++[Obj.row true tIs [.sl a n 1]])++[Obj.row true tI ((zs.mergeSort λx y=>decide (x<=y)).map (GV.int .i64))]:=by
   grind
  simp only[eV_];rw[e];have A:(zs.mergeSort λx y=>decide (x<=y)).length=zs.length:=by simp
  have key:=zP_ (H:=(H++[Obj.row true tIs [.sl a n 1]])++[Obj.row true tI ((zs.mergeSort λx y=>decide (x<=y)).map (GV.int .i64))]) (l:=(H++[Obj.row true tIs [.sl a n 1]]).length)
   (zs:=zs.mergeSort λx y=>decide (x<=y)) (J.trans (prefix_append _ _)) t_ t_ o_
   (Q:=λW V=>rG W λD=>dL 1 D λO F=>Q (gB (eqI (nI F) (nI n))) V) (λZ j H' N Y=>by
    simp[aP_];refine U _ _ N ?_;rw[<-zw_,<-Y,A,<-C];simp;omega)
  rw[A]at key;exact key
structure Pg where
 used:Bool
 leaf:Bool
 keys:List Y_
 vals:List Y_
 kids:List Int
structure ki_(H:Hp)(u l:Bool)(a1:Pl)(n1:Nat)(a2:Pl)(n2:Nat)(a3:Pl)(n3:Nat)(p:Pg):Prop where
 used:p.used=u
 leaf:p.leaf=l
 keys:Ss H a1 n1 p.keys
 vals:Ss H a2 n2 p.vals
 kids:Is H a3 n3 p.kids
theorem ki_.mono{H H':Hp}(r:H<+:H')(h:ki_ H u l a1 n1 a2 n2 a3 n3 p):ki_ H' u l a1 n1 a2 n2 a3 n3 p:=
 ⟨h.used,h.leaf,h.keys.mono r,h.vals.mono r,h.kids.mono r⟩
structure iC_(p:Pg):Prop where
 used:p.used=true
 rising:ib_ p.keys
 keys:∀k∈p.keys,1<=k.size/\k.size<=6
 leaf:p.leaf=true->p.vals.length=p.keys.length/\p.kids=[]/\∀v∈p.vals,v.size<=10
 inner:p.leaf=false->1<=p.keys.length/\p.vals=[]/\p.kids.length=p.keys.length+1/\(∀k∈p.kids,1<=k/\k<48)/\p.kids.Nodup
def fa_(p:Pg):Prop:=p.keys.length<=4/\iC_ p
section
variable{H:Hp}{Q:Post}{u l:Bool}{a1:Pl}{n1:Nat}{a2:Pl}{n2:Nat}{a3:Pl}{n3:Nat}{p:Pg}
theorem nh_ (h:ki_ H u l a1 n1 a2 n2 a3 n3 p) (hQ:∀b H',H<+:H'->(b=true↔iC_ p)->Q (gB b) H'):
 hs_ [.agg [.bool u,.bool l,.sl a1 n1 1,.sl a2 n2 1,.sl a3 n3 1]] H Q:=by
 obtain⟨hu,hl,hk,hv,hi⟩:=h;have n1e:=hk.len;have n2e:=hv.len;have n3e:=hi.len;have l1:=hk.lim;have l3:=hi.lim;have EK:∀(s:Y_)(H:Hp)(Q:Post),Q (gB (decide (1<=s.size)&&decide (s.size<=6))) H->cM_ [(Hq_,df_),(GZ_,cj_),(HW_,dE_)] Hq_ [gS s] H Q:=
  λs H Q q=>by rw[oo_];exact ps_ q
 have EV:∀(s:Y_)(H:Hp)(Q:Post),Q (gB (decide (s.size<=10))) H->cM_ [(Hq_,df_),(GZ_,cj_),(HW_,dE_)] GZ_ [gS s] H Q:=
  λs H Q q=>by rw[qi_ d_,oo_];exact mb_ q
 have EI:∀(s:Int)(H:Hp)(Q:Post),Q (gB (decide (1<=s)&&decide (s<48))) H->cM_ [(Hq_,df_),(GZ_,cj_),(HW_,dE_)] HW_ [gI s] H Q:=
  λs H Q q=>by rw[qi_ d_,qi_ d_,oo_];exact xC_ q
 refine⟨1,?_⟩;rw[yX_];refine aa_ (λe=>hQ _ _ (k8 _) ⟨λq=>(by cases q),λq=>?_⟩) λe=>?_
 .rw[<-hu,q.used]at e;cases e
 refine sX_ hk λb hb=>?_;simp only[aP_,an_];refine aa_ (λe1=>hQ _ _ (k8 _) ⟨λq=>(by cases q),λq=>?_⟩) λe1=>?_
 .rw[hb.2 q.rising]at e1;cases e1
 refine iR_ EK hk λb2 H2 p2 hb2=>?_;simp only[aP_,an_];have hkeys:(∀k∈p.keys,1<=k.size/\k.size<=6)↔∀s∈p.keys,(decide (1<=s.size)&&decide (s.size<=6))=true:=by simp
 refine aa_ (λe2=>hQ _ _ p2 ⟨λq=>(by cases q),λq=>?_⟩) λe2=>?_
 .rw[hb2.2 (hkeys.1 q.keys)]at e2;cases e2
 have hR:ib_ p.keys:=hb.1 (by cases b<;>simp_all);have hK:=hkeys.2 (hb2.1 (by cases b2<;>simp_all));have hU:p.used=true:=by rw[hu];cases u<;>simp_all
 refine aa_ (λe3=>?_) λe3=>?_
 .have hL:p.leaf=true:=by rw[hl];exact e3
  refine aa_ (λe4=>?_) λe4=>hQ _ _ p2 ⟨λq=>(by cases q),λq=>?_⟩
  rotate_left
  .have:=(q.leaf hL).1;simp at e4;omega
  refine aa_ (λe5=>?_) λe5=>hQ _ _ p2 ⟨λq=>(by cases q),λq=>?_⟩
  rotate_left
  .have:=(q.leaf hL).2.1;simp[this]at n3e;simp at e5;omega
  refine iR_ EV (hv.mono p2) λb3 H3 p3 hb3=>?_;simp only[aP_,an_];refine hQ _ _ (p2.trans p3) (hb3.trans ⟨λq=>⟨hU,hR,hK,λ_=>⟨?_,?_,by simpa using q⟩,λq=>(by rw[hL]at q;cases q)⟩,λq=>by simpa using (q.leaf hL).2.2⟩)
  .simp at e4;omega
  .simp at e5;exact eq_nil_of_length_eq_zero o_
 .have hL:p.leaf=false:=by rw[hl];exact e3
  refine aa_ (λe4=>?_) λe4=>hQ _ _ p2 ⟨λq=>(by cases q),λq=>?_⟩
  rotate_left
  .have:=(q.inner hL).1;simp at e4;omega
  refine aa_ (λe5=>?_) λe5=>hQ _ _ p2 ⟨λq=>(by cases q),λq=>?_⟩
  rotate_left
  .have:=(q.inner hL).2.1;simp[this]at n2e;simp at e5;omega
  refine aa_ (λe6=>?_) λe6=>hQ _ _ p2 ⟨λq=>(by cases q),λq=>?_⟩
  rotate_left
  .have:=(q.inner hL).2.2.1;simp only[iU_]at e6;rw[ap_ o_]at e6;simp at e6;omega
  simp only[iU_]at e6;rw[ap_ o_]at e6;refine rn_ EI (hi.mono p2) λb3 H3 p3 hb3=>?_;simp only[aP_,an_];refine aa_ (λe7=>?_) λe7=>hQ _ _ (p2.trans p3) ⟨λq=>(by cases q),λq=>?_⟩
  rotate_left
  .rw[hb3.2 (by simpa using (q.inner hL).2.2.2.1)]at e7;cases e7
  refine sY_ (hi.mono (p2.trans p3)) λb4 H4 p4 hb4=>?_;simp only[aP_,an_];refine hQ _ _ ((p2.trans p3).trans p4) (hb4.trans ⟨λq=>⟨hU,hR,hK,λq=>(by rw[hL]at q;cases q),λ_=>⟨?_,?_,?_,by simpa using hb3.1 e7,q⟩⟩,λq=>(q.inner hL).2.2.2.2⟩)
  .simp at e4;omega
  .simp at e5;exact eq_nil_of_length_eq_zero o_
  .simp at e6;omega
theorem ir_(h:ki_ H u l a1 n1 a2 n2 a3 n3 p)(r:∀b H',H<+:H'->(b=true↔fa_ p)->Q (gB b) H'):
 g7_ [.agg [.bool u,.bool l,.sl a1 n1 1,.sl a2 n2 1,.sl a3 n3 1]] H Q:=by
 have D:=h.keys.len;refine⟨1,aa_ (λe=>?_) λe=>r _ _ (k8 _) ⟨λq=>g_,λq=>?_⟩⟩
 .refine nh_ h λb H' A C=>?_;simp at e;exact r _ _ A (C.trans ⟨λq=>⟨o_,q⟩,λq=>q.2⟩)
 .have:=q.1;simp at e;omega
theorem gM_ {xs:List Y_} (h:Ss H a1 n1 xs) (hQ:∀b,(b=true↔(ib_ xs/\∀k∈xs,1<=k.size/\k.size<=6))->Q (gB b) H):bQ_ [nL a1 n1 1] H Q:=by
 have hn:=h.len;have hlim:=h.lim;have loop:∀m k:Nat,xs.length-k=m->k<=xs.length->(∀i,(hi:i<xs.length)->i<k->1<=xs[i].size/\xs[i].size<=6)->(∀i,(hi:i+1<xs.length)->i+1<k->dy_ (xs[i]'o_) xs[i+1]=true)->
  ∃f,bQ_.l2 f a1 n1 (k:Int) H Q:=by
  intro m;induction m with
  |zero=>
   intro k hm hle h1 h2;refine⟨1,?_⟩;rw[bQ_.l2_eq,aE_ s_];exact hQ true ⟨λ_=>⟨λi hi=>h2 i hi o_,λs hs=>by obtain⟨i,hi,rfl⟩:=kK hs;exact h1 i hi o_⟩,λ_=>rfl⟩
  | succ m ih=>
   intro k hm hle h1 h2;have hkn:k<xs.length:=by omega
   have hlt:ltI (k:Int) (nI n1)=true:=by simp;omega
   by_cases c1:xs[k].size<1
   .refine⟨1,?_⟩;rw[bQ_.l2_eq,az_ hlt,af_,h.rd k rfl hkn,az_ s_];exact hQ false ⟨λq=>(by cases q),λq=>by have:=(q.2 _ (kE hkn)).1;omega⟩
   by_cases c2:6<xs[k].size
   .refine⟨1,?_⟩;rw[bQ_.l2_eq,az_ hlt,af_,h.rd k rfl hkn,aE_ s_,af_,h.rd k rfl hkn,az_ s_];exact hQ false ⟨λq=>(by cases q),λq=>by have:=(q.2 _ (kE hkn)).2;omega⟩
   have h1':∀i,(hi:i<xs.length)->i<k+1->1<=xs[i].size/\xs[i].size<=6:=λi hi hik=>by
    by_cases e:i=k
    .subst e;omega
    .exact h1 i hi o_
   cases k with
   |zero=>
    obtain⟨f,hf⟩:=ih 1 o_ o_ h1' (λi hi h=>by omega);refine⟨f+1,?_⟩;rw[bQ_.l2_eq,az_ hlt,af_,h.rd 0 rfl hkn,aE_ s_,af_,h.rd 0 rfl hkn,aE_ s_,aE_ t_,ap_ o_];exact hf
   | succ k=>
    cases hs:dy_ (xs[k]'o_) xs[k+1] with
    | true=>
     obtain⟨f,hf⟩:=ih (k+1+1) o_ o_ h1' (λi hi hik=>by
      by_cases e:i=k
      .subst e;exact hs
      .exact h2 i hi o_)
     refine⟨f+1,?_⟩;rw[bQ_.l2_eq,az_ hlt,af_,h.rd (k+1) rfl hkn,aE_ s_,af_,h.rd (k+1) rfl hkn,aE_ s_,az_ (by simp<;>omega),af_,h.rd (k+1) rfl hkn,af_,
      h.rd k (ea_ o_) o_,aE_ (by rw[x0_]at hs;simpa using hs),ap_ o_]
     exact hf
    | false=>
     refine⟨1,?_⟩;rw[bQ_.l2_eq,az_ hlt,af_,h.rd (k+1) rfl hkn,aE_ s_,af_,h.rd (k+1) rfl hkn,aE_ s_,az_ (by simp<;>omega),af_,h.rd (k+1) rfl hkn,af_,
      h.rd k (ea_ o_) o_,az_ (by rw[x0_]at hs;rw[ou_];rw[Bool.not_eq_false']at hs;exact hs)]
     exact hQ false ⟨λq=>(by cases q),λq=>by rw[q.1 k hkn]at hs;cases hs⟩
 obtain⟨f,hf⟩:=loop _ 0 rfl (kP _) (λi hi h=>by omega) (λi hi h=>by omega);exact⟨f+1,by rw[w4_];exact hf⟩
theorem qa_ {most:Nat} (hmost:most<=1000) (h:ki_ H u l a1 n1 a2 n2 a3 n3 p) (hQ:∀b,(b=true↔(p.keys.length<=most/\iC_ p))->Q (gB b) H):
 aH_ [.agg [.bool u,.bool l,.sl a1 n1 1,.sl a2 n2 1,.sl a3 n3 1],gI most] H Q:=by
 obtain⟨hu,hl,hk,hv,hi⟩:=h;have n1e:=hk.len;have n2e:=hv.len;have n3e:=hi.len;have l1:=hk.lim;have l2:=hv.lim;have l3:=hi.lim;have leafs:p.leaf=true->(∀b,(b=true↔(p.vals.length=p.keys.length/\p.kids=[]/\∀v∈p.vals,v.size<=10))->Q (gB b) H)->∀m k:Nat,p.vals.length-k=m->k<=p.vals.length->(∀i,(hi:i<p.vals.length)->i<k->(p.vals[i]).size<=10)->
  ∃f,aH_.l5 f u l a1 n1 a2 n2 a3 n3 (k:Int) H Q:=by
  intro hL hQ' m;induction m with
  |zero=>
   intro k hm hle h1;refine⟨1,?_⟩;rw[aH_.l5_eq,aE_ s_];have hall:∀v∈p.vals,v.size<=10:=λs hs=>by obtain⟨i,hi,rfl⟩:=kK hs;exact h1 i hi o_
   refine aa_ (λe=>hQ' _ ?_) λe=>hQ' _ ⟨λq=>(by cases q),λq=>?_⟩
   .simp at e ⊢;refine⟨λq=>⟨o_,eq_nil_of_length_eq_zero o_,hall⟩,λq=>?_⟩;have:=q.2.1;rw[this]at n3e;exact n3e
   .have:=q.1;simp at e;omega
  | succ m ih=>
   intro k hm hle h1;have hkn:k<p.vals.length:=by omega
   have hlt:ltI (k:Int) (nI n2)=true:=by simp;omega
   by_cases c1:10<(p.vals[k]).size
   .refine⟨1,?_⟩;rw[aH_.l5_eq,az_ hlt,af_,hv.rd k rfl hkn,az_ s_];exact hQ' false ⟨λq=>(by cases q),λq=>by have:=q.2.2 _ (kE hkn);omega⟩
   ·obtain⟨f,hf⟩:=ih (k+1) o_ o_ (λi hi hik=>by
     by_cases e:i=k
     .subst e;omega
     .exact h1 i hi o_)
    refine⟨f+1,?_⟩;rw[aH_.l5_eq,az_ hlt,af_,hv.rd k rfl hkn,aE_ s_,ap_ o_];exact hf
 have inners:p.leaf=false->(∀b,(b=true↔(1<=p.keys.length/\p.vals=[]/\p.kids.length=p.keys.length+1/\(∀k∈p.kids,1<=k/\k<48)/\p.kids.Nodup))->Q (gB b) H)->∀m k:Nat,p.kids.length-k=m->k<=p.kids.length->
  (∀i,(hi:i<p.kids.length)->i<k->1<=p.kids[i]/\p.kids[i]<48)->(∀i j,(hj:j<p.kids.length)->(hij:i<j)->j<k->p.kids[i]'o_≠p.kids[j])->
  ∃f,aH_.l11 f u l a1 n1 a2 n2 a3 n3 (k:Int) H Q:=by
  intro hL hQ' m;induction m with
  | zero=>
   intro k hm hle h1 h2;refine⟨1,?_⟩;rw[aH_.l11_eq,aE_ s_];have hall:∀v∈p.kids,1<=v/\v<48:=λs hs=>by obtain⟨i,hi,rfl⟩:=kK hs;exact h1 i hi o_
   have hnd:p.kids.Nodup:=by
    rw[Nodup,kS];exact λi j _ hj hij=>h2 i j hj hij o_
   refine aa_ (λe=>?_) λe=>hQ' _ ⟨λq=>(by cases q),λq=>?_⟩
   rotate_left
   .have:=q.1;simp at e;omega
   refine aa_ (λe2=>hQ' _ ?_) λe2=>hQ' _ ⟨λq=>(by cases q),λq=>?_⟩
   rotate_left
   .have:=q.2.1;rw[this]at n2e;simp at e2 n2e;omega
   simp only[iU_];rw[ap_ o_];simp at e e2 ⊢;exact⟨λq=>⟨o_,eq_nil_of_length_eq_zero o_,o_,hall,hnd⟩,λq=>by have:=q.2.2.1;omega⟩
  | succ m ih=>
   intro k hm hle h1 h2;have hkn:k<p.kids.length:=by omega
   have hlt:ltI (k:Int) (nI n3)=true:=by simp;omega
   by_cases c1:p.kids[k]<1
   .refine⟨1,?_⟩;rw[aH_.l11_eq,az_ hlt,af_,hi.rd k rfl hkn,az_ (by simpa using c1)];exact hQ' false ⟨λq=>(by cases q),λq=>by have:=q.2.2.2.1 _ (kE hkn);omega⟩
   by_cases c2:48<=p.kids[k]
   .refine⟨1,?_⟩;rw[aH_.l11_eq,az_ hlt,af_,hi.rd k rfl hkn,aE_ (by simpa using c1),af_,hi.rd k rfl hkn,az_ (by simpa using c2)];exact hQ' false ⟨λq=>(by cases q),λq=>by have:=q.2.2.2.1 _ (kE hkn);omega⟩
   have loop:∀m' j:Nat,k-j=m'->j<=k->(∀i,(hi:i<j)->(hi2:i<k)->p.kids[i]'o_≠p.kids[k])->∃f,aH_.l16 f u l a1 n1 a2 n2 a3 n3 (k:Int) (j:Int) H Q:=by
    intro m';induction m' with
    | zero=>
     intro j hj hjk h3;obtain⟨f,hf⟩:=ih (k+1) o_ o_
      (λi hi hik=>by
       by_cases e:i=k
       .subst e;omega
       .exact h1 i hi o_)
      (λi j' hj' hij hjk'=>by
       by_cases e:j'=k
       .subst e;exact h3 i o_ hij
       .exact h2 i j' hj' hij o_)
     refine⟨f+1,?_⟩;rw[aH_.l16_eq,aE_ s_,ap_ o_];exact hf
    | succ m' ih'=>
     intro j hj hjk h3;have hjn:j<p.kids.length:=by omega
     by_cases e:p.kids[j]=p.kids[k]
     .refine⟨1,?_⟩;rw[aH_.l16_eq,az_ s_,af_,hi.rd j rfl hjn,af_,hi.rd k rfl hkn,az_ (by simpa using e)];refine hQ' false ⟨λq=>(by cases q),λq=>?_⟩;exact ((kS.1 q.2.2.2.2) j k hjn hkn o_ e).elim
     ·obtain⟨f,hf⟩:=ih' (j+1) o_ o_ (λi hi hi2=>by
       by_cases e':i=j
       .subst e';exact e
       .exact h3 i o_ hi2)
      refine⟨f+1,?_⟩;rw[aH_.l16_eq,az_ s_,af_,hi.rd j rfl hjn,af_,hi.rd k rfl hkn,aE_ (by simpa using e),ap_ o_];exact hf
   obtain⟨f,hf⟩:=loop _ 0 rfl (kP _) (λi hi=>by omega);refine⟨f+1,?_⟩;rw[aH_.l11_eq,az_ hlt,af_,hi.rd k rfl hkn,aE_ (by simpa using c1),af_,hi.rd k rfl hkn,aE_ (by simpa using c2)];exact hf
 by_cases cu:u=true
 rotate_left
 .refine⟨1,?_⟩;rw[fs_,az_ (by cases u<;>simp_all)];exact hQ _ ⟨λq=>(by cases q),λq=>by have:=q.2.used;rw[hu]at this;exact (cu this).elim⟩
 by_cases cr:ib_ p.keys/\∀k∈p.keys,1<=k.size/\k.size<=6
 rotate_left
 .refine⟨1,?_⟩;rw[fs_,aE_ (by rw[cu];rfl)];refine gM_ hk λb hb=>?_;simp only[aP_,an_];rw[az_ (by cases b with|false=>rfl|true=>exact (cr (hb.1 rfl)).elim)];exact hQ _ ⟨λq=>(by cases q),λq=>(cr ⟨q.2.rising,q.2.keys⟩).elim⟩
 by_cases cm:n1<=most
 rotate_left
 .refine⟨1,?_⟩;rw[fs_,aE_ (by rw[cu];rfl)];refine gM_ hk λb hb=>?_;simp only[aP_,an_];rw[aE_ (by rw[hb.2 cr];rfl),az_ s_];exact hQ _ ⟨λq=>(by cases q),λq=>by have:=q.1;omega⟩
 cases hL:p.leaf with
 |true=>
  obtain⟨f,hf⟩:=leafs hL (λb hb=>hQ b (hb.trans ⟨λq=>⟨o_,by rw[hu];exact cu,cr.1,cr.2,λ_=>q,λe=>(by rw[hL]at e;cases e)⟩,λq=>q.2.leaf hL⟩)) _ 0 rfl (kP _) (λi hi h=>by omega);refine⟨f+1,?_⟩;rw[fs_,aE_ (by rw[cu];rfl)];refine gM_ hk λb hb=>?_;simp only[aP_,an_];rw[aE_ (by rw[hb.2 cr];rfl),aE_ s_,az_ (by rw[<-hl];exact hL)];exact hf
 |false=>
  obtain⟨f,hf⟩:=inners hL (λb hb=>hQ b (hb.trans ⟨λq=>⟨o_,by rw[hu];exact cu,cr.1,cr.2,λe=>(by rw[hL]at e;cases e),λ_=>q⟩,λq=>q.2.inner hL⟩)) _ 0 rfl (kP _) (λi hi h=>by omega) (λi j hj hij h=>by omega);refine⟨f+1,?_⟩;rw[fs_,aE_ (by rw[cu];rfl)];refine gM_ hk λb hb=>?_;simp only[aP_,an_];rw[aE_ (by rw[hb.2 cr];rfl),aE_ s_,aE_ (by rw[<-hl];exact hL)];exact hf
theorem q5_(h:ki_ H u l a1 n1 a2 n2 a3 n3 p)(A:∀b,(b=true↔fa_ p)->Q (gB b) H):
 gG_ [.agg [.bool u,.bool l,.sl a1 n1 1,.sl a2 n2 1,.sl a3 n3 1]] H Q:=⟨1,qa_ (most:=4) o_ h λb C=>A b C⟩
end
theorem k9_{α:Type}{l:List α}{x:α}(h:l[i]?=some x):l.set i x=l:=by
 apply ext_getElem?;grind
def Dj(a b:Pl):Prop:=∀l,a=some (l,0)->b≠some (l,0)
theorem Dj.symm(h:Dj a b):Dj b a:=λl r A=>h l A r
theorem Own.lt'(h:Own H b t a n cs)(e:a=some (l,0)):l<H.length:=by subst e;exact h.lt
theorem Own.after(h:Own H b t a n cs)(A:Dj a0 a)(r:Ex H0 a0 H H'):Own H' b t a n cs:=
 h.keep λl e=>r.row l (h.lt' e) λC=>A l C e
theorem Dj.fresh{a r:Pl}(h:Own H b t a n cs)(D:∀l o,r=some (l,o)->H.length<=l):Dj r a:=λl C A=>by
 have:=D l 0 C;have:=h.lt' A;omega
theorem Own.set(h:Own H b t a n cs)(r:a≠some (l,0))(x:Obj):Own (H.set l x) b t a n cs:=
 h.keep λA e=>by grind
structure es_(H:Hp)(b:Nat)(u l:Bool)(a1:Pl)(n1:Nat)(a2:Pl)(n2:Nat)(a3:Pl)(n3:Nat)(p:Pg):Prop where
 used:p.used=u
 leaf:p.leaf=l
 keys:Own H b tS a1 n1 (p.keys.map GV.str)
 vals:Own H b tS a2 n2 (p.vals.map GV.str)
 kids:Own H b tI a3 n3 (p.kids.map (GV.int .i64))
 d12:Dj a1 a2
 d13:Dj a1 a3
 d23:Dj a2 a3
 small:n1<=1000/\n2<=1000/\n3<=1000
theorem es_.at(h:es_ H b u l a1 n1 a2 n2 a3 n3 p):ki_ H u l a1 n1 a2 n2 a3 n3 p:=by
 have⟨D,F,A,C,r,_,_,_,s⟩:=h;refine⟨D,F,⟨A.cells,?_,o_⟩,⟨C.cells,?_,o_⟩,⟨r.cells,?_,o_⟩⟩
 .have:=A.len;simpa using this.symm
 .have:=C.len;simpa using this.symm
 .have:=r.len;simpa using this.symm
theorem Own.mono{H H':Hp}(r:H<+:H')(h:Own H b t a n cs):Own H' b t a n cs:=h.keep λl e=>a8_ r (h.lt' e)
theorem es_.mono{H H':Hp}(r:H<+:H')(h:es_ H b u l a1 n1 a2 n2 a3 n3 p):es_ H' b u l a1 n1 a2 n2 a3 n3 p:=
 ⟨h.used,h.leaf,h.keys.mono r,h.vals.mono r,h.kids.mono r,h.d12,h.d13,h.d23,h.small⟩
def noPg:Pg:=⟨false,false,[],[],[]⟩
theorem FG_(H:Hp)(b:Nat):es_ H b false false none 0 none 0 none 0 noPg:=
 ⟨rfl,rfl,.inl ⟨rfl,rfl,rfl⟩,.inl ⟨rfl,rfl,rfl⟩,.inl ⟨rfl,rfl,rfl⟩,λ_ e=>t_,λ_ e=>t_,λ_ e=>t_,o_⟩
theorem Dy_(H:Hp):ki_ H false false none 0 none 0 none 0 noPg:=(FG_ H 0).at
theorem fc_(h:Q (gI n) H):fv_ [gI n] H Q:=⟨1,h⟩
section
variable{H:Hp}{Q:Post}{a1 a2:Pl}{n1 n2:Nat}
end
section
variable{H:Hp}{Q:Post}{u l:Bool}{a1:Pl}{n1:Nat}{a2:Pl}{n2:Nat}{a3:Pl}{n3:Nat}{p:Pg}{u' l':Bool}{a1':Pl}{n1':Nat}{a2':Pl}{n2':Nat}{a3':Pl}{n3':Nat}{q:Pg}
end
theorem Own.wr{H0 H:Hp}(F:H0<+:H)(h:Own H H0.length t a n cs)(k:Nat){i:Int}(hi:i=k)(O:k<n)
 (I:∀H',Own H' H0.length t a n (cs.set k v)->Ex H0 a H H'->K H'):chk (leI 0 i&&ltI i (nI n)) (pS a λC D=>Am.wr H C (D+tN i*1) v K):=by
 subst hi;refine ac_ (by simp_all) ?_;rcases h with⟨_,rfl,_⟩|⟨l,rfl,A,r,N⟩
 .omega
 .simp[ad_];rw[qv_ r o_];refine I _ (.inr ⟨l,rfl,A,kH (kC.1 r).1,g_⟩) ⟨dD_ F A _,t_,λJ _ G=>?_⟩;grind
theorem Ex.trans(h:Ex H0 a H H1)(A:Ex H0 a H1 H2):Ex H0 a H H2:=
 ⟨A.pre,Nat.le_trans h.len A.len,λl C r=>(A.row l (Nat.lt_of_lt_of_le C h.len) r).trans (h.row l C r)⟩
theorem Ex.refl{H0 H:Hp}(h:H0<+:H):Ex H0 a H H:=⟨h,kO _,λ_ _ _=>rfl⟩
section
variable{H0 H:Hp}{u l:Bool}{a1:Pl}{n1:Nat}{a2:Pl}{n2:Nat}{a3:Pl}{n3:Nat}{p:Pg}
theorem es_.setKey(h:es_ H H0.length u l a1 n1 a2 n2 a3 n3 p)(D:H0<+:H)(k:Nat){i:Int}(hi:i=k)(r:k<n1)(s:Y_)
 (F:∀H',H0<+:H'->es_ H' H0.length u l a1 n1 a2 n2 a3 n3 { p with keys:=p.keys.set k s }->K H'):chk (leI 0 i&&ltI i (nI n1)) (pS a1 λA C=>Am.wr H A (C+tN i*1) (.str s) K):=
 h.keys.wr D k hi r λH' o x=>F H' x.pre ⟨h.used,h.leaf,by simp_all,h.vals.after h.d12 x,h.kids.after h.d13 x,h.d12,h.d13,h.d23,h.small⟩
theorem es_.setVal(h:es_ H H0.length u l a1 n1 a2 n2 a3 n3 p)(D:H0<+:H)(k:Nat){i:Int}(hi:i=k)(r:k<n2)(s:Y_)
 (F:∀H',H0<+:H'->es_ H' H0.length u l a1 n1 a2 n2 a3 n3 { p with vals:=p.vals.set k s }->K H'):chk (leI 0 i&&ltI i (nI n2)) (pS a2 λA C=>Am.wr H A (C+tN i*1) (.str s) K):=
 h.vals.wr D k hi r λH' o x=>F H' x.pre ⟨h.used,h.leaf,h.keys.after h.d12.symm x,by simp_all,h.kids.after h.d23 x,h.d12,h.d13,h.d23,h.small⟩
theorem es_.addKeys(h:es_ H H0.length u l a1 n1 a2 n2 a3 n3 p)(C:H0<+:H)(xs:List Y_)(D:cs=xs.map GV.str)(A:m=xs.length)(G:n1+m<=1000)
 (F:∀r H',H0<+:H'->es_ H' H0.length u l r (n1+m) a2 n2 a3 n3 { p with keys:=p.keys++xs }->K r (n1+m) H'):ap H tS 1 16 a1 n1 cs m K:=by
 subst D;subst A;refine kF_ C h.keys t_ (by unfold Lim;omega) λr H' o x f=>F r H' x.pre ?_;have:=h.small;exact⟨h.used,h.leaf,g_,h.vals.after h.d12 x,h.kids.after h.d13 x,Dj.fresh h.vals f,Dj.fresh h.kids f,h.d23,o_⟩
theorem es_.addVals(h:es_ H H0.length u l a1 n1 a2 n2 a3 n3 p)(C:H0<+:H)(xs:List Y_)(D:cs=xs.map GV.str)(A:m=xs.length)(G:n2+m<=1000)
 (F:∀r H',H0<+:H'->es_ H' H0.length u l a1 n1 r (n2+m) a3 n3 { p with vals:=p.vals++xs }->K r (n2+m) H'):ap H tS 1 16 a2 n2 cs m K:=by
 subst D;subst A;refine kF_ C h.vals t_ (by unfold Lim;omega) λr H' o x f=>F r H' x.pre ?_;have:=h.small;exact⟨h.used,h.leaf,h.keys.after h.d12.symm x,g_,h.kids.after h.d23 x,(Dj.fresh h.keys f).symm,h.d13,Dj.fresh h.kids f,o_⟩
theorem es_.addKids(h:es_ H H0.length u l a1 n1 a2 n2 a3 n3 p)(C:H0<+:H)(xs:List Int)(D:cs=xs.map (GV.int .i64))(A:m=xs.length)(G:n3+m<=1000)
 (F:∀r H',H0<+:H'->es_ H' H0.length u l a1 n1 a2 n2 r (n3+m) { p with kids:=p.kids++xs }->K r (n3+m) H'):ap H tI 1 8 a3 n3 cs m K:=by
 subst D;subst A;refine kF_ C h.kids t_ (by unfold Lim;omega) λr H' o x f=>F r H' x.pre ?_;have:=h.small;exact⟨h.used,h.leaf,h.keys.after h.d13.symm x,h.vals.after h.d23.symm x,g_,h.d12,(Dj.fresh h.keys f).symm,(Dj.fresh h.vals f).symm,o_⟩
end
def kQ_(H:Hp)(lo hi:Nat)(t:TypeId)(a:Pl)(n:Nat)(cs:List GV):Prop:=
 (a=none/\n=0/\cs=[])\/∃l o ds,a=some (l,o)/\lo<=l/\l<hi/\H[l]?=some (.row true t ds)/\o+n<=ds.length/\(ds.drop o).take n=cs
def Dr(a b:Pl):Prop:=∀l o o',a=some (l,o)->b≠some (l,o')
structure Ch(lo hi:Nat)(H H':Hp):Prop where
 len:H.length<=H'.length
 row:∀l,l<H.length-> ¬ (lo<=l/\l<hi)->H'[l]?=H[l]?
theorem Ch.trans(h:Ch lo hi H H1)(C:Ch lo hi H1 H2):Ch lo hi H H2:=
 ⟨Nat.le_trans h.len C.len,λl r A=>(C.row l (Nat.lt_of_lt_of_le r h.len) A).trans (h.row l r A)⟩
theorem Ch.refl(lo hi:Nat)(H:Hp):Ch lo hi H H:=⟨kO _,λ_ _ _=>rfl⟩
theorem Ch.of_pre{H H':Hp}(h:H<+:H'):Ch lo hi H H':=⟨h.length_le,λl r _=>a8_ h r⟩
theorem Ch.pre{H0 H H':Hp}(h:Ch lo hi H H')(r:H0<+:H)(A:H0.length<=lo):H0<+:H':=by
 rw[prefix_iff_eq_take];apply ext_getElem?;intro i;rw[getElem?_take];split
 .rename_i hi;rw[h.row i (Nat.lt_of_lt_of_le hi r.length_le) o_,a8_ r hi]
 .grind
section
variable{H H':Hp}{lo hi:Nat}{t:TypeId}{a:Pl}{n:Nat}{cs:List GV}
theorem kQ_.keep(h:kQ_ H lo hi t a n cs)(G:∀l o,a=some (l,o)->H'[l]?=H[l]?):kQ_ H' lo hi t a n cs:=by
 rcases h with h|⟨l,o,C,rfl,A,F,I,D,r⟩
 .exact .inl h
 .exact .inr ⟨l,o,C,rfl,A,F,g_,D,r⟩
theorem kQ_.lt(h:kQ_ H lo hi t a n cs)(e:a=some (l,o)):l<H.length/\lo<=l/\l<hi:=by
 rcases h with⟨h,_⟩|⟨r,G,D,C,A,I,F,_⟩
 .grind
 .grind
theorem kQ_.mono(h:kQ_ H lo hi t a n cs)(r:H<+:H'):kQ_ H' lo hi t a n cs:=h.keep λl o e=>a8_ r (h.lt e).1
theorem kQ_.cells(h:kQ_ H lo hi t a n cs):cells? H a n=some cs:=by
 rcases h with⟨rfl,rfl,rfl⟩|⟨l,o,F,rfl,D,G,C,A,r⟩
 .rfl
 .simp only[cells?,C];rw[if_pos A,r]
theorem kQ_.len(h:kQ_ H lo hi t a n cs):cs.length=n:=EO_ h.cells
theorem kQ_.part(h:kQ_ H lo hi t a n cs)(k m:Nat)(G:k+m<=n):kQ_ H lo hi t (shf a k) m ((cs.drop k).take m):=by
 rcases h with⟨rfl,rfl,rfl⟩|⟨l,o,D,rfl,C,F,A,I,r⟩
 .exact .inl ⟨rfl,o_,t_⟩
 .refine .inr ⟨l,o+k,D,rfl,C,F,A,o_,?_⟩;rw[<-r,drop_take,take_take,drop_drop,Nat.min_eq_left o_]
theorem Dr.shf (h:Dr a b) (k m:Nat):Dr (shf a k) (shf b m):=by
 intro l o G r A;cases a with
 |none=>cases r
 | some p=>
  cases b with
  |none=>cases A
  |some q=>
   have⟨I,C⟩:=p;have⟨F,D⟩:=q;simp at r A;exact h l C D g_ g_
theorem kQ_.wr (h:kQ_ H lo hi t a n cs) (k:Nat) {i:Int} (A:i=k) (Y:k<n)
 (N:∀H',kQ_ H' lo hi t a n (cs.set k v)->Ch lo hi H H'->(∀l,l<H.length->(∀o,a≠some (l,o))->H'[l]?=H[l]?)->K H'):chk (leI 0 i&&ltI i (nI n)) (pS a λO F=>Am.wr H O (F+tN i*1) v K):=by
 subst A;refine ac_ (by simp_all) ?_;rcases h with⟨_,rfl,_⟩|⟨l,o,V,rfl,D,G,C,W,U⟩
 .omega
 .simp[ad_];rw[qv_ C o_];have J:=(kC.1 C).1;refine N _ (.inr ⟨l,o,_,rfl,D,G,kH J,g_,?_⟩) ⟨t_,λI _ r=>?_⟩ (λI _ r=>?_)
  .rw[<-U,drop_set,if_neg o_,take_set,show o+k-o=k by omega]
  .grind
  .grind
end
structure PgM(H:Hp)(lo hi:Nat)(u l:Bool)(a1:Pl)(n1:Nat)(a2:Pl)(n2:Nat)(a3:Pl)(n3:Nat)(p:Pg):Prop where
 used:p.used=u
 leaf:p.leaf=l
 keys:kQ_ H lo hi tS a1 n1 (p.keys.map GV.str)
 vals:kQ_ H lo hi tS a2 n2 (p.vals.map GV.str)
 kids:kQ_ H lo hi tI a3 n3 (p.kids.map (GV.int .i64))
 d12:Dr a1 a2
 d13:Dr a1 a3
 d23:Dr a2 a3
 small:n1<=1000/\n2<=1000/\n3<=1000
section
variable{H H':Hp}{lo hi:Nat}{u l:Bool}{a1:Pl}{n1:Nat}{a2:Pl}{n2:Nat}{a3:Pl}{n3:Nat}{p:Pg}
theorem PgM.at(h:PgM H lo hi u l a1 n1 a2 n2 a3 n3 p):ki_ H u l a1 n1 a2 n2 a3 n3 p:=by
 have⟨D,F,C,A,r,_,_,_,s⟩:=h;refine⟨D,F,⟨C.cells,?_,o_⟩,⟨A.cells,?_,o_⟩,⟨r.cells,?_,o_⟩⟩
 .have:=C.len;simpa using this.symm
 .have:=A.len;simpa using this.symm
 .have:=r.len;simpa using this.symm
theorem PgM.mono(h:PgM H lo hi u l a1 n1 a2 n2 a3 n3 p)(r:H<+:H'):PgM H' lo hi u l a1 n1 a2 n2 a3 n3 p:=
 ⟨h.used,h.leaf,h.keys.mono r,h.vals.mono r,h.kids.mono r,h.d12,h.d13,h.d23,h.small⟩
theorem Own.dr (h:Own H b t a n cs) (D:Own H b t' a' n' cs') (C:Dj a a'):Dr a a':=by
 intro l o G e A;rcases h with⟨q,_⟩|⟨m,q,_⟩
 .grind
 .rcases D with⟨r,_⟩|⟨F,r,_⟩
  .grind
  .rw[q]at e;rw[r]at A;cases e;cases A;exact C l q r
end
end Go.Am
namespace Go.Am
structure PC where
 u:Bool
 l:Bool
 a1:Pl
 n1:Nat
 a2:Pl
 n2:Nat
 a3:Pl
 n3:Nat
def PC.cells(c:PC):List GV:=[.bool c.u,.bool c.l,.sl c.a1 c.n1 1,.sl c.a2 c.n2 1,.sl c.a3 c.n3 1]
@[simp] theorem PC.cells_length (c:PC):c.cells.length=5:=rfl
def PC.at(H:Hp)(c:PC)(p:Pg):Prop:=ki_ H c.u c.l c.a1 c.n1 c.a2 c.n2 c.a3 c.n3 p
theorem PC.at.mono{H H':Hp}(r:H<+:H'){c:PC}(h:c.at H p):c.at H' p:=ki_.mono r h
def aW_(cs:List PC):List GV:=cs.flatMap PC.cells
theorem co_(cs:List PC):(aW_ cs).length=cs.length*5:=by
 unfold aW_;induction cs with
 |nil=>rfl
 |cons c cs h=>simp[h];omega
theorem pg_(cs h:List PC):aW_ (cs++h)=aW_ cs++aW_ h:=by simp[aW_]
theorem j5_ (hi:i<cs.length) (r:j<5):(aW_ cs)[i*5+j]?=(cs[i].cells)[j]? :=by
 unfold aW_;induction cs generalizing i with
 |nil=>simp at hi
 | cons c cs h=>
  simp;cases i with
  |zero=>rw[kM (by simp_all)];simp
  |succ i=>
   rw[List.getElem?_append_right s_];have e:(i+1)*5+j-c.cells.length=i*5+j:=by simp;omega
   grind
structure Tr(H:Hp)(a:Pl)(n:Nat)(cs:List PC)(T:List Pg):Prop where
 cells:cells? H a (n*5)=some (aW_ cs)
 len:cs.length=n
 lenT:T.length=n
 all:∀i (h:i<cs.length) (h':i<T.length),(cs[i]).at H T[i]
theorem Tr.mono{H H':Hp}(r:H<+:H')(h:Tr H a n cs T):Tr H' a n cs T:=⟨l8_ r h.cells,h.len,h.lenT,λi C A=>(h.all i C A).mono r⟩
theorem Tr.get (h:Tr H a n cs T) (hi:i<n):∃l o c p,a=some (l,o)/\cs[i]?=some c/\T[i]?=some p/\c.at H p/\
 gt H l (o+i*5)=some (.bool c.u)/\gt H l (o+i*5+1)=some (.bool c.l)/\gt H l (o+i*5+2)=some (.sl c.a1 c.n1 1)/\gt H l (o+i*5+3)=some (.sl c.a2 c.n2 1)/\gt H l (o+i*5+4)=some (.sl c.a3 c.n3 1):=by
 have F:=h.len;have D:=h.lenT;have A:=h.cells;cases a with
 |none=>simp[cells?]at A;omega
 | some q=>
  have⟨l,o⟩:=q;have r:∀j,j<5->gt H l (o+i*5+j)=((cs[i]'o_).cells)[j]? :=by
   intro j C;have:=js_ A (j:=i*5+j) o_;rw[<-Nat.add_assoc]at this;rw[this,j5_ o_ C]
  exact⟨l,o,cs[i]'o_,T[i]'o_,rfl,t_,t_,h.all i o_ o_,r 0 o_,r 1 o_,r 2 o_,r 3 o_,r 4 o_⟩
theorem cN_{c:PC}{K:Bool->Bool->Pl->Nat->Pl->Nat->Pl->Nat->Prop}(Y:gt H l j=some (.bool c.u))(C:gt H l (j+1)=some (.bool c.l))(r:gt H l (j+2)=some (.sl c.a1 c.n1 1))(h3:gt H l (j+3)=some (.sl c.a2 c.n2 1))(J:gt H l (j+4)=some (.sl c.a3 c.n3 1)):
 (rd H l j λv0=>dB v0 λA=>rd H l (j+1) λF=>dB F λN=>rd H l (j+1+1) λI=>dL 1 I λZ n2=>rd H l (j+1+1+1) λW=>dL 1 W λD O=>rd H l (j+1+1+1+1) λV=>dL 1 V λU G=>K A N Z n2 D O U G)=K c.u c.l c.a1 c.n1 c.a2 c.n2 c.a3 c.n3:=by
 rw[ae_ Y,an_,ae_ C,an_,ae_ r,ah_,ae_ h3,ah_,ae_ J,ah_]
end Go.Am
namespace Go.Am
open List
open Go.RowKit Go.ChangeShapes Go.WideShapes Go.Proofs
theorem Kj_(F:P.underlying t=some (.struct fs))(h:Value.okWide P W r b t v):∃A:Array Value,v= .agg A/\∀x∈A.toList,Zc W x:=by
 unfold Value.okWide at h;rw[F]at h;obtain⟨A,rfl,_,J,_,_,I⟩:=h;refine⟨A,rfl,λx D=>?_⟩;obtain⟨i,N,rfl⟩:=kK D;have⟨u,_,G⟩:=I i A[i] t_;exact Gq_ G
section
variable{Hh:Type}{enc:TypeId × Value->Hh}{W:World}{held:Bool}
theorem Hb_ {fuel:Nat} {cs:List Value} {x:DataW Hh × List MemPlace} (h:DataW.trod enc Tryz.prog W 0 (λ_=>true) held fuel 100 cs=some x) (hz:∀v∈cs,Zc W v) (hw:(DataW.weights Tryz.prog 100 x.1).all (· <=reachBytes)=true)
 {φ:List LI} {H:Hp} (hr:cO_ φ H W) (hn:iF_ H):
 ∃φ' H' u l a1 n1 a2 n2 a3 n3 p,φ<+:φ'/\H<+:H'/\cO_ φ' H' W/\iF_ H'/\Is2 φ' [.bool u,.bool l,.sl a1 n1 1,.sl a2 n2 1,.sl a3 n3 1] cs/\ki_ H' u l a1 n1 a2 n2 a3 n3 p:=by
 obtain⟨xs,n,rfl,rfl,hlen,hxs,hf⟩:=DataW.trod_struct Tryz.underlying100 h;have h5:Tryz.prog.cellsOf 100=5:=by kernel_rfl
 have cB:Tryz.prog.cellsOf 4=1:=by kernel_rfl
 have c22:Tryz.prog.cellsOf 46=1:=by kernel_rfl
 have c23:Tryz.prog.cellsOf 47=1:=by kernel_rfl
 rw[h5]at hlen
 match cs,hlen with
 | [v0,v1,v2,v3,v4],_=>
  have f0:DataW.trod enc Tryz.prog W 0 (λ_=>true) held n 4 (([v0,v1,v2,v3,v4].drop 0).take (Tryz.prog.cellsOf 4))=xs[0]? :=hf 0 _ rfl;have f1:DataW.trod enc Tryz.prog W 0 (λ_=>true) held n 4 (([v0,v1,v2,v3,v4].drop 1).take (Tryz.prog.cellsOf 4))=xs[1]? :=hf 1 _ rfl;have f2:DataW.trod enc Tryz.prog W 0 (λ_=>true) held n 46 (([v0,v1,v2,v3,v4].drop 2).take (Tryz.prog.cellsOf 46))=xs[2]? :=hf 2 _ rfl;have f3:DataW.trod enc Tryz.prog W 0 (λ_=>true) held n 46 (([v0,v1,v2,v3,v4].drop 3).take (Tryz.prog.cellsOf 46))=xs[3]? :=hf 3 _ rfl;have f4:DataW.trod enc Tryz.prog W 0 (λ_=>true) held n 47 (([v0,v1,v2,v3,v4].drop 4).take (Tryz.prog.cellsOf 47))=xs[4]? :=hf 4 _ rfl;simp only[cB,c22,c23,drop_zero,drop_succ_cons,take_succ_cons,take_zero]at f0 f1 f2 f3 f4
  match xs,hxs with
  | [x0,x1,x2,x3,x4],_=>
   simp only[getElem?_cons_zero,getElem?_cons_succ]at f0 f1 f2 f3 f4;simp only[map_cons,map_nil,DataW.weights,Tryz.underlying100]at hw;obtain⟨u,e0,_⟩:=DataW.trod_bool Tryz.underlying4 f0;obtain⟨l,e1,_⟩:=DataW.trod_bool Tryz.underlying4 f1;simp only[List.cons.injEq,and_true]at e0 e1;subst e0;subst e1;obtain⟨φ1,H1,a1,n1,ks,w2,e2,p1,q1,r1,o1,i1,s1⟩:=wY_ Tryz.underlying46 Tryz.underlying9 (by kernel_rfl) (by kernel_rfl) f2 (λv hv=>hz v (by simp at hv;simp[hv])) (rc_ hw (j:=2) rfl rfl) hr hn;obtain⟨φ2,H2,a2,n2,vs,w3,e3,p2,q2,r2,o2,i2,s2⟩:=wY_ Tryz.underlying46 Tryz.underlying9 (by kernel_rfl) (by kernel_rfl) f3 (λv hv=>hz v (by simp at hv;simp[hv])) (rc_ hw (j:=3) rfl rfl) r1 o1;obtain⟨φ3,H3,a3,n3,is,w4,e4,p3,q3,r3,o3,i3,s3⟩:=Fo_ Tryz.underlying47 Tryz.underlying3 (by kernel_rfl) (by kernel_rfl) f4 (λv hv=>hz v (by simp at hv;simp[hv])) (rc_ hw (j:=4) rfl rfl) r2 o2;simp only[List.cons.injEq,and_true]at e2 e3 e4;subst e2;subst e3;subst e4;exact⟨φ3,H3,u,l,a1,n1,a2,n2,a3,n3,⟨u,l,ks,vs,is⟩,p1.trans (p2.trans p3),q1.trans (q2.trans q3),r3,o3,
    .cons rfl (.cons rfl (.cons (GV.is.mono (p2.trans p3) i1) (.cons (GV.is.mono p3 i2) (.cons i3 .nil)))),⟨rfl,rfl,s1.mono (q2.trans q3),s2.mono q3,s3⟩⟩
theorem tv_:∀{D:List (DataW Hh)},(DataW.weightsAll P e D).all (· <=reachBytes)=true->∀{i:Nat}{d:DataW Hh},D[i]?=some d->(DataW.weights P e d).all (· <=reachBytes)=true
 |[],_,i,d,h=>by grind
 |d0::r,A,0,d,h=>by
  simp[DataW.weightsAll]at A;grind
 |d0::r,A,i+1,d,h=>by
  simp only[DataW.weightsAll,all_append,kR]at A;exact tv_ A.2 h
theorem Is2.get(h:Is2 φ cs vs){j:Nat}(r:cs[j]?=some v):∃x,vs[j]?=some x/\v.is φ x:=cr_.get h r
theorem C1_ {fuel:Nat} {cs:List Value} {x:DataW Hh × List MemPlace} (h:DataW.trod enc Tryz.prog W 0 (λ_=>true) held fuel 22 cs=some x) (hz:∀v∈cs,Zc W v) (hw:(DataW.weights Tryz.prog 22 x.1).all (· <=reachBytes)=true)
 {φ:List LI} {H:Hp} (hr:cO_ φ H W) (hn:iF_ H):
 ∃φ' H' a n ps T v,cs=[v]/\φ<+:φ'/\H<+:H'/\cO_ φ' H' W/\iF_ H'/\GV.is φ' (.sl a n 5) v/\Tr H' a n ps T/\n*80<=140737488351232:=by
 have h5:Tryz.prog.cellsOf 100=5:=by kernel_rfl
 rcases DataW.trod_slice Tryz.underlying22 h with⟨rfl,rfl⟩|⟨a,len,cap,elems,rest,n,rfl,rfl,rfl,_,hl,hcap,hel,hi,hrest,_⟩
 .exact⟨φ,H,none,0,[],[],_,rfl,k8 _,k8 _,hr,hn,⟨rfl,rfl⟩,⟨rfl,rfl,rfl,λi h1=>(by simp at h1)⟩,o_⟩
 rw[h5]at hi hrest;obtain⟨hrl,hrj⟩:=hrest rfl;simp only[DataW.weights,Tryz.underlying22]at hw;rw[all_cons,all_append,kR,kR]at hw;obtain⟨hw0,hw1,_⟩:=hw;have hpos:0<W.heap.size:=hz (.slice (some a) len cap) (mem_singleton.2 rfl) _ _ _ rfl;have hsp:0<cap->a.spot=none/\a.block<W.heap.size:=by
  intro h0;have hb:∃cs0,W.cells? 0 (a.add 0) 5=some cs0:=by
   rcases Nat.eq_zero_or_pos len with e|e
   .have:=hrj 0 o_;rw[e]at this;simp only[kN,Nat.zero_mul]at this;rw[kG o_]at this;cases hc:W.cells? 0 (a.add 0) 5 with
    |none=>rw[hc]at this;cases this
    |some c=>exact⟨c,rfl⟩
   .have:=hi 0 e;simp only[Nat.zero_mul]at this;rw[kG o_]at this;cases hc:W.cells? 0 (a.add 0) 5 with
    |none=>rw[hc]at this;cases this
    |some c=>exact⟨c,rfl⟩
  obtain⟨c0,hc0⟩:=hb;obtain⟨_,hlen,hget⟩:=World.cells?_some hc0;have:=hget 0 o_;rw[kG o_]at this;have:=yO_ this;simpa[Addr.add] using this
 have key:∀k,k<=len->∃(φ':List LI)(H':Hp)(ps:List PC)(T:List Pg),φ<+:φ'/\H<+:H'/\cO_ φ' H' W/\iF_ H'/\ps.length=k/\T.length=k/\(∀i (h:i<ps.length) (h':i<T.length),(ps[i]).at H' T[i])/\
  ∀j v,(aW_ ps)[j]?=some v->∃x,W.cell? (a.add j)=some x/\v.is φ' x:=by
  intro k;induction k with
  |zero=>intro _;exact⟨φ,H,[],[],k8 _,k8 _,hr,hn,rfl,rfl,λi h1=>(by simp at h1),λj v hj=>(by simp[aW_]at hj)⟩
  | succ k ih=>
   intro hk;obtain⟨φ1,H1,ps,T,e1,g1,r1,n1,l1,l2,at1,c1⟩:=ih o_;have hik:=hi k o_;have hel':k<elems.length:=by omega
   rw[kG hel']at hik;cases hc:W.cells? 0 (a.add (k*5)) 5 with
   |none=>rw[hc]at hik;cases hik
   | some ck=>
    rw[hc]at hik;obtain⟨_,hlen,hget⟩:=World.cells?_some hc;obtain⟨φ2,H2,u,l,a1,n1',a2,n2,a3,n3,p,e2,g2,r2,n2',is2,at2⟩:=Hb_ (x:=elems[k]) hik (λv hv=>by intro _ _ _ _;exact hpos) (tv_ hw1 (i:=k) (by rw[getElem?_map,kG hel'];rfl)) r1 n1;obtain⟨hs,hb⟩:=hsp o_;refine⟨φ2,H2,ps++[⟨u,l,a1,n1',a2,n2,a3,n3⟩],T++[p],e1.trans e2,g1.trans g2,r2,n2',by simp[l1],by simp[l2],?_,?_⟩
    .intro i h1 h2;rw[getElem_append,getElem_append];by_cases e:i<k
     .rw[dif_pos o_,dif_pos o_];exact (at1 i o_ o_).mono g2
     .rw[dif_neg o_,dif_neg o_];simpa[PC.at] using at2
    ·intro j v hj;rw[pg_]at hj;rcases Nat.lt_or_ge j (k*5) with q|q
     .rw[kM (by rw[co_];omega)]at hj;obtain⟨x,x1,x2⟩:=c1 j v hj;exact⟨x,x1,GV.is.mono e2 x2⟩
     .rw[getElem?_append_right (by rw[co_];omega),co_,l1]at hj;have hj5:j-k*5<5:=by have:=(kC.1 hj).1;simpa[aW_] using this
      obtain⟨x,hx,hvx⟩:=Is2.get is2 (j:=j-k*5) (v:=v) (by simpa[aW_,PC.cells] using hj);refine⟨x,?_,hvx⟩;have:=hget (j-k*5) hj5;rw[hx]at this;rw[<-this,m2_ hs,m2_ hs];rw[m2_ rfl];congr 2;show a.off+j=a.off+k*5+(j-k*5);omega
 obtain⟨φ1,H1,ps,T,e1,g1,r1,n1,l1,l2,at1,c1⟩:=key len (kO _);obtain⟨φ2,H2,p,e2,g2,r2,n2,i2,s2⟩:=vh_ (z:=5) r1 n1 hl hpos hsp (aW_ ps) (by rw[co_,l1]) c1;refine⟨φ2,H2,p,len,ps,T,_,rfl,e1.trans e2,g1.trans g2,r2,n2,i2,⟨s2,l1,l2,λi h1 h2=>(at1 i h1 h2).mono g2⟩,?_⟩;have hb:Tryz.prog.bytesOf 100=80:=by kernel_rfl
 simp only[decide_eq_true_eq,k9,hb,hel]at hw0;unfold reachBytes at hw0;omega
theorem Jl_ {fuel:Nat} {cs:List Value} {x:DataW Hh × List MemPlace} (h:DataW.trod enc Tryz.prog W 0 (λ_=>true) held fuel 24 cs=some x) (hz:∀v∈cs,Zc W v) (hw:(DataW.weights Tryz.prog 24 x.1).all (· <=reachBytes)=true)
 {φ:List LI} {H:Hp} (hr:cO_ φ H W) (hn:iF_ H):
 ∃φ' H' a n ps T,φ<+:φ'/\H<+:H'/\cO_ φ' H' W/\iF_ H'/\Is2 φ' [.sl a n 5] cs/\Tr H' a n ps T/\n*80<=140737488351232:=by
 obtain⟨xs,n,rfl,rfl,hlen,hxs,hf⟩:=DataW.trod_struct Tryz.underlying24 h;have h1:Tryz.prog.cellsOf 24=1:=by kernel_rfl
 have c1:Tryz.prog.cellsOf 22=1:=by kernel_rfl
 rw[h1]at hlen
 match cs,hlen with
 | [v0],_=>
  have f0:DataW.trod enc Tryz.prog W 0 (λ_=>true) held n 22 (([v0].drop 0).take (Tryz.prog.cellsOf 22))=xs[0]? :=hf 0 _ rfl;simp only[c1,drop_zero,take_succ_cons,take_zero]at f0
  match xs,hxs with
  |[x0],_=>
   simp only[getElem?_cons_zero]at f0;simp only[map_cons,map_nil,DataW.weights,Tryz.underlying24]at hw;obtain⟨φ1,H1,a,m,ps,T,v,e,p1,q1,r1,o1,i1,s1,b1⟩:=C1_ f0 (λv hv=>hz v hv) (rc_ hw (j:=0) rfl rfl) hr hn;simp only[List.cons.injEq,and_true]at e;subst e;exact⟨φ1,H1,a,m,ps,T,p1,q1,r1,o1,.cons i1 .nil,s1,b1⟩
end
end Go.Am
namespace Go.Am
open List
structure dz_{α β:Type}(ek:α->RV)(ev:β->RV)(H:Hp)(l:Nat)(ps:List (α × β)):Prop where
 ex:∃es c,H[l]?=some (.map es c)/\es.map (λe=>(e.2.1,e.2.2))=ps.map (λp=>(ek p.1,ev p.2))/\(∀e∈es,e.1<c)/\(es.map (·.1)).Nodup
 nodup:(ps.map (·.1)).Nodup
structure tQ_{α:Type}(ag:Bool)(lv:List LK)(ek:α->RV):Prop where
 fit:∀a,nb_ ag lv (ek a)=true
 inj:∀a b,ek a=ek b->a=b
theorem CT_ (h:nb_ ag lv k=true) (r:nb_ ag lv k'=true):∃e,lg_ k.cells k'.cells=some e/\(e=true↔k=k'):=by
 cases ag with
 | false=>
  cases k with
  |a _=>cases h
  | s v=>cases k' with
   |a _=>cases r
   |s G=>
    have⟨e,C,A⟩:=jt_ h r
    exact⟨e,C,A.trans ⟨λq=>by grind,λq=>by cases q;rfl⟩⟩
 | true=>
  cases k with
  |s _=>cases h
  | a F=>cases k' with
   |s _=>cases r
   |a D=>
    have⟨e,C,A⟩:=jt_ h r
    exact⟨e,C,A.trans ⟨λq=>by grind,λq=>by cases q;rfl⟩⟩
section
variable{α β:Type}[DecidableEq α]{ek:α->RV}{ev:β->RV}{ag:Bool}{lv:List LK}{H:Hp}{l:Nat}{ps:List (α × β)}
def look(ps:List (α × β))(k:α):Option β:=(ps.find? λp=>decide (p.1=k)).map (·.2)
def fu_(ps:List (α × β))(k:α)(v:β):List (α × β):=match look ps k with
 |some _=>ps.map λp=>if p.1=k then (k,v) else p
 |none=>ps++[(k,v)]
theorem w5_ (ok:tQ_ ag lv ek) (k:α):∀{es:List Ent}{ps:List (α × β)} (i:Nat),es.map (λe=>(e.2.1,e.2.2))=ps.map (λp=>(ek p.1,ev p.2))->
 (look ps k=none/\o5_ ag lv (ek k) es i=some none/\∀p∈ps,p.1≠k)\/∃j v,look ps k=some v/\o5_ ag lv (ek k) es i=some (some (i+j))/\ps[j]?=some (k,v)
 |[],[],i,_=> .inl ⟨rfl,rfl,t_⟩
 |[],_::_,_,h=>by grind
 |_::_,[],_,h=>by grind
 | e::es,p::ps,i,h=>by
  simp[map_cons]at h;have⟨⟨I,U⟩,h3⟩:=h;have⟨q,G,D⟩:=CT_ (ok.fit k) (ok.fit p.1);by_cases r:p.1=k
  .right;refine⟨0,p.2,by simp[look,r],?_,by simp[<-r]⟩;have:=D.2 g_;subst this;simp[o5_,I,ok.fit,G]
  ·have A:q=false:=by
    cases q with
    |false=>rfl
    |true=>exact absurd (ok.inj _ _ (D.1 rfl)).symm r
   subst A;have O:look (p::ps) k=look ps k:=by simp[look,r]
   have J:o5_ ag lv (ek k) (e::es) i=o5_ ag lv (ek k) es (i+1):=by simp[o5_,I,ok.fit,G]
   rcases w5_ ok k (i+1) h3 with⟨N,C,F⟩|⟨j,v,N,C,F⟩
   .grind
   .exact .inr ⟨j+1,v,g_,by rw[J,C];congr 2;omega,F⟩
end
section
variable{α β:Type}{ek:α->RV}{ev:β->RV}{ag:Bool}{lv:List LK}{H:Hp}{l:Nat}{ps:List (α × β)}
theorem FU_{es:List Ent}(h:es.map (λe=>(e.2.1,e.2.2))=ps.map λp=>(ek p.1,ev p.2)){j:Nat}(A:ps[j]?=some (k,v)):∃e,es[j]?=some e/\e.2.1=ek k/\e.2.2=ev v:=by
 have:=congrArg (λl:List (RV × RV)=>l[j]?) h;simp only[getElem?_map,A]at this;cases r:es[j]? with
 |none=>rw[r]at this;simp at this
 |some e=>rw[r]at this;simp at this;exact⟨e,rfl,this.1,this.2⟩
end
section
variable{α β:Type}[DecidableEq α]{ek:α->RV}{ev:β->RV}{ag:Bool}{lv:List LK}{H:Hp}{l:Nat}{ps:List (α × β)}
theorem fp_(ok:tQ_ ag lv ek)(h:dz_ ek ev H l ps)(k:α)(I:∀v,look ps k=some v->K (ev v) true)(N:look ps k=none->K z false):sc_ H (some l) ag lv (ek k) z K:=by
 have⟨F,c,U,r,_,_⟩:=h.ex;unfold sc_;rcases w5_ ok k 0 r with⟨D,A,_⟩|⟨j,v,D,A,C⟩
 .grind
 .have⟨e,G,J,O⟩:=FU_ r C;grind
end
section
variable{α β:Type}{ek:α->RV}{ev:β->RV}{ag:Bool}{lv:List LK}{H:Hp}{l:Nat}{ps:List (α × β)}
theorem lH_(h:dz_ ek ev H l ps)(C:K ps.length):o7_ H (some l) K:=by
 have⟨A,c,D,r,_,_⟩:=h.ex;unfold o7_;have:=congrArg length r;grind
end
section
variable{α β:Type}[DecidableEq α]{ek:α->RV}{ev:β->RV}{ag:Bool}{lv:List LK}{H:Hp}{l:Nat}{ps:List (α × β)}
theorem cU_ (h:look ps k=some v):(k,v)∈ps:=by
 unfold look at h;cases r:ps.find? λp=>decide (p.1=k) with
 |none=>rw[r]at h;cases h
 |some p=>
  grind
theorem oB_(h:look ps k=none):∀p∈ps,p.1≠k:=by
 unfold look at h;rw[Option.map_eq_none_iff,find?_eq_none]at h;grind
theorem oy_ (k:α) (v:β):(fu_ ps k v).map (·.1)=match look ps k with|some _=>ps.map (·.1)|none=>ps.map (·.1)++[k]:=by
 unfold fu_;cases look ps k with
 |none=>simp
 |some _=>
  simp only[map_map];apply map_congr_left;grind
theorem ip_ (ok:tQ_ ag lv N) (h:dz_ N ev H l ps) (k:α) (v:β) {K:Hp->Prop} (hK:∀H',H'.length=H.length->(∀G,G≠l->H'[G]?=H[G]?)->dz_ N ev H' l (fu_ ps k v)->K H'):xh_ H (some l) ag lv (N k) (ev v) K:=by
 have⟨es,c,hm,O,hb,hn⟩:=h.ex;have F:=(kC.1 hm).1;unfold xh_;simp[hm];rcases w5_ ok k 0 O with⟨I,V,D⟩|⟨j,v0,I,V,D⟩
 .rw[V];refine hK _ t_ (λG U=>by rw[kF (Ne.symm U)]) ⟨⟨es++[(c,N k,ev v)],c+1,by rw[kH F],?_,?_,?_⟩,?_⟩
  .unfold fu_;rw[I];simp[O]
  .grind
  .rw[kL,kT];refine⟨hn,t_,λa Z b r q=>?_⟩;simp at r;have⟨e,Y,A⟩:=lA.1 Z;have:=hb e Y;omega
  .rw[oy_,I,kT];refine⟨h.nodup,t_,λa Z b r q=>?_⟩;simp at r;subst q;subst r;have⟨p,hp,A⟩:=lA.1 Z;exact D p hp A
 ·rw[V];have⟨e,J,A,e3⟩:=FU_ O D;simp[J];refine hK _ t_ (λG U=>by rw[kF (Ne.symm U)]) ⟨⟨es.set j (e.1,e.2.1,ev v),c,by rw[kH F],?_,?_,?_⟩,?_⟩
  ·have W:fu_ ps k v=ps.set j (k,v):=by
    unfold fu_;rw[I];apply ext_getElem?;intro n;rw[getElem?_map,getElem?_set];by_cases C:j=n
    .subst C;rw[D];simp[(kC.1 D).1]
    ·rw[if_neg C];cases hx:ps[n]? with
     |none=>rfl
     | some p=>
      have hpk:p.1≠k:=λq=>by
       have hj1:(ps.map (·.1))[j]?=some k:=by rw[getElem?_map,D];rfl
       have hn1:(ps.map (·.1))[n]?=some k:=by rw[getElem?_map,hx,Option.map_some,q]
       have⟨l1,J⟩:=kC.1 hj1;obtain⟨l2,A⟩:=kC.1 hn1;rcases Nat.lt_or_gt_of_ne C with g|g
       .exact kS.1 h.nodup j n l1 l2 g (by rw[J,A])
       .exact kS.1 h.nodup n j l2 l1 g (by rw[J,A])
      simp[hpk]
   rw[W,List.map_set,List.map_set,O,A]
  .intro x hx;rcases mem_or_eq_of_mem_set hx with q|q
   .exact hb x q
   .rw[q];exact hb e (mem_of_getElem? J)
  .rw[List.map_set];grind
  .rw[oy_,I];exact h.nodup
end
structure e9_ {α β:Type} (ek:α->RV) (ev:β->RV) (H:Hp) (it l:Nat) (ps:List (α × β)) (js:List Nat):Prop where
 ex:∃es c,H[l]?=some (.map es c)/\es.map (λe=>(e.2.1,e.2.2))=ps.map (λp=>(ek p.1,ev p.2))/\(∀e∈es,e.1<c)/\(es.map (·.1)).Nodup/\
  H[it]?=some (.iter (some l) c (js.map λj=>((es[j]?).map (·.1)).getD 0) c)
 nod:js.Nodup
 lt:∀j∈js,j<ps.length
section
variable{α β:Type}{ek:α->RV}{ev:β->RV}{H H':Hp}{it l:Nat}{ps:List (α × β)}{js:List Nat}
theorem dz_.keep(h:dz_ ek ev H l ps)(e:H'[l]?=H[l]?):dz_ ek ev H' l ps:=by
 have⟨A,c,C,r⟩:=h.ex;exact⟨⟨A,c,g_,r⟩,h.nodup⟩
theorem dz_.lt(h:dz_ ek ev H l ps):l<H.length:=by
 have⟨r,c,A,_⟩:=h.ex;grind
theorem e9_.keep(h:e9_ ek ev H it l ps js)(I:H'[l]?=H[l]?)(D:H'[it]?=H[it]?):e9_ ek ev H' it l ps js:=by
 have⟨G,c,J,A,C,F,r⟩:=h.ex;exact⟨⟨G,c,g_,A,C,F,by rw[D];exact r⟩,h.nod,h.lt⟩
theorem e9_.lts(h:e9_ ek ev H it l ps js):l<H.length/\it<H.length:=by
 have⟨r,c,A,_,_,_,C⟩:=h.ex;grind
theorem e9_.map(h:e9_ ek ev H it l ps js)(C:(ps.map (·.1)).Nodup):dz_ ek ev H l ps:=by
 have⟨G,c,F,r,A,D,_⟩:=h.ex;exact⟨⟨G,c,F,r,A,D⟩,C⟩
theorem wi_(h:dz_ ek ev H l ps)(C:∀o,e9_ ek ev (H++[o]) H.length l ps []->K (H++[o])):rng H (some l) K:=by
 have⟨I,c,G,r,A,D⟩:=h.ex;unfold rng;simp[G];exact C _ ⟨⟨I,c,g_,r,A,D,by rw[getElem?_concat_length];rfl⟩,nodup_nil,λj F=>by cases F⟩
theorem Bq_{es:List Ent}(h:es.map (λe=>(e.2.1,e.2.2))=ps.map λp=>(ek p.1,ev p.2)):es.length=ps.length:=by
 have:=congrArg length h;simpa
theorem Dx_{es:List Ent}(h:es.map (λe=>(e.2.1,e.2.2))=ps.map λp=>(ek p.1,ev p.2))(A:j<ps.length)(r:j<es.length):es[j].2.1=ek ps[j].1/\es[j].2.2=ev ps[j].2:=by
 have:=congrArg (λl:List (RV × RV)=>l[j]?) h;grind
theorem Go_{es:List Ent}(r:(es.map (·.1)).Nodup)(hi:i<es.length)(A:j<es.length)(h:es[i].1=es[j].1):i=j:=by
 rcases Nat.lt_trichotomy i j with g|g|g
 .exact absurd g_ (kS.1 r i j g_ g_ g)
 .exact g
 .exact absurd g_ (kS.1 r j i g_ g_ g)
theorem wu_ (h:e9_ ek ev H it l ps js) (U:it≠l)
 (h1:∀j (D:j<ps.length),j∉js->∀H',H'.length=H.length->(∀O,O≠it->H'[O]?=H[O]?)->e9_ ek ev H' it l ps (js++[j])->K1 (ek ps[j].1) (ev ps[j].2) H')
 (h2:js.Perm (List.range ps.length)->K2 H):nxt H it 0 K1 K2:=by
 have⟨C,c,hm,Z,hb,hn,G⟩:=h.ex;have hl:=Bq_ Z;have W:=(kC.1 G).1;have A:∀j (D:j<C.length),((C[j]?).map (·.1)).getD 0=C[j].1:=λj D=>by simp[kG D]
 refine⟨rfl,?_⟩;simp only[G,hm];refine⟨?_,λe r V=>?_,λhall=>?_⟩
 .cases C with
  |nil=>exact .inr (.inl rfl)
  |cons e C=>exact .inr (.inr ⟨e,t_,hb e t_⟩)
 ·obtain⟨j,D,rfl⟩:=kK r;have J:=λq=>V (lA.2 ⟨j,q,A j D⟩);have⟨e1,e2⟩:=Dx_ Z o_ D;rw[e1,e2];refine h1 j o_ J _ t_ (λO Y=>by rw[kF (Ne.symm Y)]) ⟨⟨C,c,by rw[kF U];exact hm,Z,hb,hn,?_⟩,?_,?_⟩
  .rw[kH W,kL,map_singleton,A j D]
  .rw[kT];exact⟨h.nod,t_,λa ha b I q=>by simp at I;subst q;subst I;exact J ha⟩
  ·intro i N;rcases kD.1 N with q|q
   .exact h.lt i q
   .have:i=j:=by simpa using q
    omega
 ·refine h2 ((perm_ext_iff_of_nodup h.nod nodup_range).2 λj=>⟨λq=>mem_range.2 (h.lt j q),λq=>?_⟩);have D:j<C.length:=by have:=mem_range.1 q;omega
  have r:C[j].1∈js.map λj=>((C[j]?).map (·.1)).getD 0:=by
   grind
  have⟨i,N,e⟩:=lA.1 r;have F:i<C.length:=by have:=h.lt i N;omega
  rw[A i F]at e;rw[<-Go_ hn F D e];exact N
theorem rp_ {j:Nat} (h:e9_ ek ev H it l ps (js++[j])) (G:j<ps.length) {K:RV->RV->Prop} (O:K (ek ps[j].1) (ev ps[j].2)):Cn_ H it 0 K:=by
 obtain⟨C,c,I,r,U,F,D⟩:=h.ex;have V:=Bq_ r;have A:j<C.length:=by omega
 refine⟨rfl,?_⟩;simp only[D,I,kL,map_singleton,getLast?_concat,kG A,Option.map_some,Option.getD_some];have Y:C.find? (λe=>e.1==C[j].1)=some C[j]:=by
  have:∀{l:List Ent},(l.map (·.1)).Nodup->∀e∈l,l.find? (λx=>x.1==e.1)=some e:=by
   intro l;induction l with
   |nil=>intro _ e r;cases r
   |cons x l N=>
    intro F e r;rw[map_cons,nodup_cons]at F;rw[find?_cons];rcases kU.1 r with rfl|r
    .simp
    .grind
  grind
 obtain⟨J,W⟩:=Dx_ r G A;grind
end
def tM_(n:Int):Bool:=(leI 97 n&&leI n 122)||(leI 48 n&&leI n 57)
def jj_(s:Y_):Nat->Bool
 |0=>true
 |i+1=>jj_ s i&&tM_ (byt s i)
def a7_(s:Y_)(m:Int):Bool:=jj_ s s.size&&(leI 1 (sz s)&&leI (sz s) m)
theorem kV_ (h:tM_ (byt s i)=false):∀n,i<n->jj_ s n=false
 |0,r=>by omega
 | n+1,r=>by
  rcases Nat.lt_or_ge i n with q|q
  .simp[jj_,kV_ h n q]
  .obtain rfl:i=n:=by omega
   simp[jj_,h]
section
variable{H:Hp}{Q:Post}{s:Y_}
theorem lj_:s=mkS []↔s.size=0:=by
 constructor
 .simp_all
 .intro h;have:bs s=[]:=length_eq_zero_iff.1 (by simp_all);exact iZ_ (by simp_all)
theorem pl_ {m:Int} (hs:s.size<=140737488351232) (hQ:Q (gB (a7_ s m)) H):di_ [gS s,gI m] H Q:=by
 refine⟨s.size+2,?_⟩;rw[AY_];have loop:∀(f i:Nat),s.size-i<f->i<=s.size->jj_ s i=true->di_.l2 f s m (sz s) (i:Int) H Q:=by
  intro f;induction f with
  |zero=>intro i h;omega
  | succ f ih=>
   intro i hf hi hw;rw[di_.l2_eq];rcases Nat.lt_or_ge i s.size with hi' |hi'
   ·rw[az_ (by simp[nR_];omega)];refine ac_ (by simp[nR_];omega) ?_;have etN:tN (i:Int)=i:=rfl;rw[etN,ap_ o_];have nx:tM_ (byt s i)=true->di_.l2 f s m (sz s) ((i+1:Nat):Int) H Q:=λh=>ih (i+1) o_ o_ (by simp[jj_,hw,h]);have no:tM_ (byt s i)=false->Q (gB false) H:=λh=>by
     have:a7_ s m=false:=by unfold a7_;rw[kV_ h _ hi'];rfl
     rw[<-this];exact hQ
    generalize byt s i=b at*;refine aa_ (λe1=>aa_ (λe2=>no ?_) λe2=>aa_ (λe3=>no ?_) λe3=>nx ?_) (λe1=>aa_ (λe2=>aa_ (λe3=>no ?_) λe3=>aa_ (λe4=>no ?_) λe4=>nx ?_) λe2=>nx ?_)<;>
     simp[tM_] at* <;>omega
   ·obtain rfl:i=s.size:=by omega
    rw[aE_ (by simp[nR_])];unfold a7_ at hQ;rw[hw,Bool.true_and]at hQ;refine aa_ (λe=>?_) λe=>?_
    .have h0:s.size≠0:=λz=>by rw[lj_.2 z]at e;simp at e
     rw[show leI 1 (sz s)=true by simp[nR_];omega,Bool.true_and]at hQ;exact hQ
    .have h0:s.size=0:=lj_.1 (by simpa using e);rw[show leI 1 (sz s)=false by simp[nR_];omega,Bool.false_and]at hQ;exact hQ
 exact loop _ 0 o_ (kP _) rfl
theorem mq_ {m:Int} (hs:s.size<=140737488351232) (hQ:Q (gB (a7_ s m)) H):cl_ [gS s,gI m] H Q:=by
 refine⟨s.size+2,?_⟩;rw[xM_];have loop:∀(f i:Nat),s.size-i<f->i<=s.size->jj_ s i=true->cl_.l2 f s m (i:Int) H Q:=by
  intro f;induction f with
  |zero=>intro i h;omega
  | succ f ih=>
   intro i hf hi hw;rw[cl_.l2_eq];rcases Nat.lt_or_ge i s.size with hi' |hi'
   ·rw[az_ (by simp[nR_];omega)];have hck:(leI 0 (i:Int)&&ltI (i:Int) (sz s))=true:=by simp[nR_];omega
    rw[hck];simp only[af_];have etN:tN (i:Int)=i:=rfl;rw[etN,ap_ o_];have nx:tM_ (byt s i)=true->cl_.l2 f s m ((i+1:Nat):Int) H Q:=λh=>ih (i+1) o_ o_ (by simp[jj_,hw,h]);have no:tM_ (byt s i)=false->Q (gB false) H:=λh=>by
     have:a7_ s m=false:=by unfold a7_;rw[kV_ h _ hi'];rfl
     rw[<-this];exact hQ
    generalize byt s i=b at*;refine aa_ (λe1=>aa_ (λe2=>nx ?_) λe2=>aa_ (λe3=>aa_ (λe4=>no ?_) λe4=>nx ?_) λe3=>no ?_) (λe1=>aa_ (λe3=>aa_ (λe4=>no ?_) λe4=>nx ?_) λe3=>no ?_)<;>
     simp[tM_] at* <;>omega
   .obtain rfl:i=s.size:=by omega
    rw[aE_ (by simp[nR_])];unfold a7_ at hQ;rw[hw,Bool.true_and]at hQ;refine aa_ (λe=>?_) λe=>?_
    .rw[e,Bool.true_and]at hQ;exact hQ
    .rw[e,Bool.false_and]at hQ;exact hQ
 exact loop _ 0 o_ (kP _) rfl
end
theorem ed_(h:(!b)=true):b=false:=by cases b<;>simp_all
theorem eU_(h:(!b)=false):b=true:=by cases b<;>simp_all
theorem lt_(s:Y_)(l h:Nat):(sub s l h).size<=s.size:=by
 unfold sub;rw[ByteArray.size_extract];omega
theorem kI_(s:Y_)(j:Nat):0<=byt s j/\byt s j<=255:=by
 unfold byt;have:((s.data.toList.getD j 0).toNat)<256:=UInt8.toNat_lt _;omega
theorem eZ_(s:Y_)(j:Nat):ab_ .i64 (byt s j)=byt s j:=by
 have:=kI_ s j;exact b5_ o_ o_
def cm_(s:Y_):Option Y_:=match leI 1 (sz s)&&(eqI (byt s 0) 115&&a7_ (sub s 1 s.size) 4) with|true=>some (sub s 1 s.size)|false=>none
def bU_(s:Y_):Option (Int × Y_):=match leI 2 (sz s)&&(eqI (byt s 0) 102&&(leI 1 (byt s 1)&&a7_ (sub s 2 s.size) 3)) with|true=>some (byt s 1,sub s 2 s.size)|false=>none
def cY_(s:Y_):Option Int:=match eqI (sz s) 2&&(eqI (byt s 0) 105&&leI 1 (byt s 1)) with|true=>some (byt s 1)|false=>none
structure SnapR where
 id:Int
 kind:Int
 parent:Y_
 label:Y_
 deriving DecidableEq
structure InoR where
 links:Int
 content:Y_
 deriving DecidableEq
def SnapR.cells(x:SnapR):List GV:=[.int .i64 x.id,.int .i64 x.kind,.str x.parent,.str x.label]
def InoR.cells(x:InoR):List GV:=[.int .i64 x.links,.str x.content]
def kA_:SnapR:=⟨0,0,mkS [],mkS []⟩
def xJ_:InoR:=⟨0,mkS []⟩
def fq_(x:SnapR):Bool:=(leI 1 x.id&&leI x.id 255)&&((leI 0 x.kind&&leI x.kind 2)&&((gc_ x.parent (mkS [])||a7_ x.parent 4)&&leI (sz x.label) 3))
def eb_(x:InoR):Bool:=(leI 1 x.links&&leI x.links 255)&&leI (sz x.content) 6
def nV_(s:Y_):SnapR:=⟨byt s 0,byt s 1,sub s 3 (tN (3+byt s 2)),sub s (tN (3+byt s 2)) s.size⟩
def tL_(s:Y_):InoR:=⟨byt s 0,sub s 1 s.size⟩
def bB_(s:Y_):Option SnapR:=match leI 3 (sz s)&&(leI (3+byt s 2) (sz s)&&fq_ (nV_ s)) with|true=>some (nV_ s)|false=>none
def cI_(s:Y_):Option InoR:=match leI 1 (sz s)&&eb_ (tL_ s) with|true=>some (tL_ s)|false=>none
def JJ_(o:Option SnapR):Int:=match o with|some _=>0|none=>1700
def JK_(o:Option InoR):Int:=match o with|some _=>0|none=>1800
section
variable{H:Hp}{Q:Post}{s:Y_}
theorem eX_(r:s.size<=140737488351232)(A:Q (gB (a7_ s 4)) H):cQ_ [gS s] H Q:=by
 refine⟨1,?_⟩;rw[xp_];refine pl_ r ?_;simp_all
theorem fZ_(r:s.size<=140737488351232)(A:Q (gB (a7_ s 3)) H):dd_ [gS s] H Q:=by
 refine⟨1,?_⟩;rw[xU_];refine pl_ r ?_;simp_all
theorem cw_(r:s.size<=140737488351232)(A:Q (gB (a7_ s 4)) H):bs_ [gS s] H Q:=by
 refine⟨1,?_⟩;rw[tc_];refine mq_ r ?_;simp_all
theorem fY_(r:s.size<=140737488351232)(A:Q (gB (a7_ s 3)) H):cE_ [gS s] H Q:=by
 refine⟨1,?_⟩;rw[sL_];refine mq_ r ?_;simp_all
theorem hu_(r:Q (gB (leI 1 n&&leI n 255)) H):gm_ [gI n] H Q:=by
 refine⟨1,?_⟩;rw[Fr_];refine aa_ (λe=>?_) λe=>?_
 .grind
 .grind
theorem gH_(r:Q (gB (leI 1 n&&leI n 255)) H):dl_ [gI n] H Q:=by
 refine⟨1,?_⟩;rw[vS_];refine aa_ (λe=>?_) λe=>?_
 .grind
 .grind
theorem m1_(A:1<=n)(r:Q (gB (leI n (sz s)&&eqI (byt s 0) p)) H):jN_ [gS s,.g (.int .u8 p),gI n] H Q:=by
 refine⟨1,?_⟩;rw[Fs_];refine aa_ (λe=>?_) λe=>?_
 .rw[e,Bool.true_and]at r;refine ac_ (by simp at e ⊢;omega) ?_;exact r
 .grind
theorem xQ_ (hs:s.size<=140737488351232) (hQ:Q (.tup [.s (.str ((cm_ s).getD (mkS []))),.s (.bool (cm_ s).isSome)]) H):j0_ [gS s] H Q:=by
 have hz:=lt_ s 1 s.size;refine⟨1,?_⟩;rw[AP_];refine m1_ o_ ?_;simp only[aP_,an_];refine aa_ (λe=>?_) λe=>?_
 .have:cm_ s=none:=by unfold cm_;rw[<-Bool.and_assoc,ed_ e];rfl
  rw[this]at hQ;exact hQ
 ·have e':(leI 1 (sz s)&&eqI (byt s 0) 115)=true:=by simpa using e
  have h1:1<=s.size:=by simp at e';omega
  refine ac_ s_ ?_;refine eX_ (Nat.le_trans hz hs) ?_;simp only[aP_,an_];refine aa_ (λe2=>?_) λe2=>?_
  .have:cm_ s=none:=by unfold cm_;rw[<-Bool.and_assoc,e',show a7_ (sub s 1 s.size) 4=false by simpa using e2];rfl
   rw[this]at hQ;exact hQ
  .have:cm_ s=some (sub s 1 s.size):=by unfold cm_;rw[<-Bool.and_assoc,e',show a7_ (sub s 1 s.size) 4=true by simpa using e2];rfl
   rw[this]at hQ;refine ac_ s_ ?_;exact hQ
theorem q3_ (hs:s.size<=140737488351232) (hQ:Q (.tup [.s (.str ((cm_ s).getD (mkS []))),.s (.bool (cm_ s).isSome)]) H):fL_ [gS s] H Q:=by
 have hz:=lt_ s 1 s.size;refine⟨1,?_⟩;rw[uL_];refine aa_ (λe=>?_) λe=>?_
 .have:cm_ s=none:=by unfold cm_;rw[show leI 1 (sz s)=false by simp at e ⊢;omega];rfl
  rw[this]at hQ;exact hQ
 ·have h1:1<=s.size:=by simp at e;omega
  have e0:leI 1 (sz s)=true:=by simp;omega
  refine ac_ s_ ?_;refine aa_ (λe1=>?_) λe1=>?_
  .have:cm_ s=none:=by unfold cm_;rw[show eqI (byt s 0) 115=false by simpa using e1,e0];rfl
   rw[this]at hQ;exact hQ
  have e1':eqI (byt s 0) 115=true:=by simpa using e1
  refine ac_ s_ ?_;refine cw_ (Nat.le_trans hz hs) ?_;simp only[aP_,an_];refine aa_ (λe2=>?_) λe2=>?_
  .have:cm_ s=none:=by unfold cm_;rw[e0,e1',show a7_ (sub s 1 s.size) 4=false by simpa using e2];rfl
   rw[this]at hQ;exact hQ
  .have:cm_ s=some (sub s 1 s.size):=by unfold cm_;rw[e0,e1',show a7_ (sub s 1 s.size) 4=true by simpa using e2];rfl
   rw[this]at hQ;refine ac_ s_ ?_;exact hQ
theorem xs_ (hs:s.size<=140737488351232) (hQ:Q (.tup [nN ((bU_ s).map (·.1) |>.getD 0),.s (.str ((bU_ s).map (·.2) |>.getD (mkS []))),.s (.bool (bU_ s).isSome)]) H):jM_ [gS s] H Q:=by
 have hz:=lt_ s 2 s.size;refine⟨1,?_⟩;rw[BS_];refine m1_ o_ ?_;simp only[aP_,an_];refine aa_ (λe=>?_) λe=>?_
 .have:bU_ s=none:=by unfold bU_;rw[<-Bool.and_assoc,ed_ e];rfl
  rw[this]at hQ;exact hQ
 ·have e':(leI 2 (sz s)&&eqI (byt s 0) 102)=true:=by simpa using e
  have h1:2<=s.size:=by simp at e';omega
  have hb:=kI_ s 1;refine ac_ s_ ?_;refine hu_ ?_;simp only[aP_,an_];rw[show tN 1=1 from rfl,eZ_];refine aa_ (λe2=>?_) λe2=>?_
  .have:bU_ s=none:=by unfold bU_;rw[<-Bool.and_assoc,e',show leI 1 (byt s 1)=false by simp at e2 ⊢;omega];rfl
   rw[this]at hQ;exact hQ
  ·have e3:leI 1 (byt s 1)=true:=by simp at e2 ⊢;omega
   refine ac_ s_ ?_;refine fZ_ (Nat.le_trans hz hs) ?_;simp only[aP_,an_];refine aa_ (λe4=>?_) λe4=>?_
   .have:bU_ s=none:=by unfold bU_;rw[<-Bool.and_assoc,e',e3,show a7_ (sub s 2 s.size) 3=false by simpa using e4];rfl
    rw[this]at hQ;exact hQ
   .have:bU_ s=some (byt s 1,sub s 2 s.size):=by unfold bU_;rw[<-Bool.and_assoc,e',e3,show a7_ (sub s 2 s.size) 3=true by simpa using e4];rfl
    rw[this]at hQ;exact ac_ s_ (ac_ s_ hQ)
theorem re_ (hs:s.size<=140737488351232) (hQ:Q (.tup [nN ((bU_ s).map (·.1) |>.getD 0),.s (.str ((bU_ s).map (·.2) |>.getD (mkS []))),.s (.bool (bU_ s).isSome)]) H):fN_ [gS s] H Q:=by
 have hz:=lt_ s 2 s.size;have hb:=kI_ s 1;refine⟨1,?_⟩;rw[t3_];refine aa_ (λe=>?_) λe=>?_
 .have:bU_ s=none:=by unfold bU_;rw[show leI 2 (sz s)=false by simp at e ⊢;omega];rfl
  rw[this]at hQ;exact hQ
 ·have h1:2<=s.size:=by simp at e;omega
  have e0:leI 2 (sz s)=true:=by simp;omega
  refine ac_ s_ ?_;refine aa_ (λe1=>?_) λe1=>?_
  .have:bU_ s=none:=by unfold bU_;rw[show eqI (byt s 0) 102=false by simpa using e1,e0];rfl
   rw[this]at hQ;exact hQ
  have e1':eqI (byt s 0) 102=true:=by simpa using e1
  refine ac_ s_ ?_;rw[show tN 1=1 from rfl,eZ_];refine aa_ (λe2=>?_) λe2=>?_
  .have:bU_ s=none:=by unfold bU_;rw[e0,e1',show leI 1 (byt s 1)=false by simp at e2 ⊢;omega];rfl
   rw[this]at hQ;exact hQ
  ·have e3:leI 1 (byt s 1)=true:=by simp at e2 ⊢;omega
   refine ac_ s_ ?_;refine fY_ (Nat.le_trans hz hs) ?_;simp only[aP_,an_];refine aa_ (λe4=>?_) λe4=>?_
   .have:bU_ s=none:=by unfold bU_;rw[e0,e1',e3,show a7_ (sub s 2 s.size) 3=false by simpa using e4];rfl
    rw[this]at hQ;exact hQ
   .have:bU_ s=some (byt s 1,sub s 2 s.size):=by unfold bU_;rw[e0,e1',e3,show a7_ (sub s 2 s.size) 3=true by simpa using e4];rfl
    rw[this]at hQ;exact ac_ s_ (ac_ s_ hQ)
theorem uj_ (F:Q (.tup [nN ((cY_ s).getD 0),.s (.bool (cY_ s).isSome)]) H):he_ [gS s] H Q:=by
 have G:=kI_ s 1;refine⟨1,?_⟩;rw[xE_];refine m1_ o_ (aa_ (λe=>?_) λe=>?_)
 ·have:cY_ s=none:=by
   unfold cY_;have:(eqI (sz s) 2&&(eqI (byt s 0) 105&&leI 1 (byt s 1)))=false:=by
    cases h:(eqI (sz s) 2&&(eqI (byt s 0) 105&&leI 1 (byt s 1))) with
    |false=>rfl
    |true=>simp at h e;omega
   grind
  grind
 ·have C:eqI (byt s 0) 105=true:=by grind
  refine aa_ (λD=>?_) λD=>?_
  .have:cY_ s=none:=by unfold cY_;rw[show eqI (sz s) 2=false by simpa using D];rfl
   grind
  ·have r:eqI (sz s) 2=true:=by grind
   refine ac_ (by simp_all) (hu_ ?_);rw[show tN 1=1 from rfl,eZ_];refine aa_ (λA=>?_) λA=>?_
   .have:cY_ s=none:=by unfold cY_;rw[r,C,show leI 1 (byt s 1)=false by simp at A ⊢;omega];rfl
    grind
   .have:cY_ s=some (byt s 1):=by unfold cY_;rw[r,C,show leI 1 (byt s 1)=true by simp at A ⊢;omega];rfl
    simp_all
theorem oT_ (G:Q (.tup [nN ((cY_ s).getD 0),.s (.bool (cY_ s).isSome)]) H):eG_ [gS s] H Q:=by
 have I:=kI_ s 1;refine⟨1,?_⟩;rw[qx_];refine aa_ (λF=>?_) λF=>?_
 .have:cY_ s=none:=by unfold cY_;rw[show eqI (sz s) 2=false by simpa using F];rfl
  grind
 ·have r:eqI (sz s) 2=true:=by grind
  refine ac_ (by simp_all) (aa_ (λD=>?_) λD=>?_)
  .have:cY_ s=none:=by unfold cY_;rw[r,show eqI (byt s 0) 105=false by simpa using D];rfl
   grind
  have A:eqI (byt s 0) 105=true:=by simp_all
  refine ac_ (by simp_all) ?_;rw[show tN 1=1 from rfl,eZ_];refine aa_ (λC=>?_) λC=>?_
  .have:cY_ s=none:=by unfold cY_;rw[r,A,show leI 1 (byt s 1)=false by simp at C ⊢;omega];rfl
   grind
  .have:cY_ s=some (byt s 1):=by unfold cY_;rw[r,A,show leI 1 (byt s 1)=true by simp at C ⊢;omega];rfl
   simp_all
end
section
variable{H:Hp}{Q:Post}{s:Y_}
theorem np_(r:Q (gB (leI 0 n&&leI n 2)) H):gS_ [gI n] H Q:=by
 refine⟨1,?_⟩;rw[zs_];refine aa_ (λe=>?_) λe=>?_
 .grind
 .grind
theorem i4_(r:Q (gB (leI (sz s) 3)) H):fR_ [gS s] H Q:=⟨1,r⟩
theorem hj_(r:Q (gB (leI (sz s) 6)) H):dp_ [gS s] H Q:=⟨1,r⟩
theorem pr_ (G:x.parent.size<=140737488351232) (F:Q (gB (fq_ x)) H):hC_ [.agg [.int .i64 x.id,.int .i64 x.kind,.str x.parent,.str x.label]] H Q:=by
 refine⟨1,?_⟩;rw[AC_];unfold fq_ at F;refine hu_ (aa_ (λD=>?_) λD=>?_)
 rotate_left
 .grind
 refine np_ (aa_ (λA=>?_) λA=>?_)
 rotate_left
 .grind
 refine aa_ (λC=>?_) λC=>?_
 .refine i4_ ?_;simp_all
 .refine eX_ G (aa_ (λr=>?_) λr=>?_)
  .refine i4_ ?_;simp_all
  .grind
theorem j1_ (I:x.parent.size<=140737488351232) (G:Q (gB (fq_ x)) H):dR_ [.agg [.int .i64 x.id,.int .i64 x.kind,.str x.parent,.str x.label]] H Q:=by
 refine⟨1,?_⟩;rw[sd_];unfold fq_ at G;refine gH_ (aa_ (λD=>?_) λD=>?_)
 rotate_left
 .grind
 refine aa_ (λA=>?_) λA=>?_
 rotate_left
 .grind
 refine aa_ (λF=>?_) λF=>?_
 rotate_left
 .grind
 refine aa_ (λC=>?_) λC=>?_
 .grind
 .refine cw_ I (aa_ (λr=>?_) λr=>?_)
  .grind
  .grind
theorem nT_(A:Q (gB (eb_ x)) H):gT_ [.agg [.int .i64 x.links,.str x.content]] H Q:=by
 refine⟨1,?_⟩;rw[zT_];unfold eb_ at A;refine hu_ (aa_ (λr=>?_) λr=>?_)
 .refine hj_ ?_;simp_all
 .grind
theorem i6_(A:Q (gB (eb_ x)) H):dw_ [.agg [.int .i64 x.links,.str x.content]] H Q:=by
 refine⟨1,?_⟩;rw[qH_];unfold eb_ at A;refine gH_ (aa_ (λr=>?_) λr=>?_)
 .grind
 .grind
theorem xZ_ (V:s.size<=140737488351232) (r:Q (.tup [.a ((bB_ s).getD kA_).cells,nN (JJ_ (bB_ s))]) H):jA_ [gS s] H Q:=by
 have Y:=kI_ s 2;refine⟨1,?_⟩;rw[Bn_];refine aa_ (λI=>?_) λI=>?_
 .have:bB_ s=none:=by unfold bB_;rw[show leI 3 (sz s)=false by simp at I ⊢;omega];rfl
  rw[this]at r;exact r
 have W:3<=s.size:=by simp at I;omega
 have A:leI 3 (sz s)=true:=by simp_all
 have N:tN 2=2:=rfl;have J:tN 1=1:=rfl;have U:tN 0=0:=rfl;have O:tN 3=3:=rfl;rw[U,J,N,O,eZ_,eZ_,eZ_,b5_ s_ s_,b5_ o_ o_];refine ac_ s_ ?_;refine aa_ (λF=>?_) λF=>?_
 .have:bB_ s=none:=by unfold bB_;rw[show leI (3+byt s 2) (sz s)=false by simp at F ⊢;omega,A];rfl
  rw[this]at r;exact r
 have C:leI (3+byt s 2) (sz s)=true:=by simp at F ⊢;omega
 have D:(tN (3+byt s 2))<=s.size:=by simp_all
 refine ac_ s_ (ac_ s_ (ac_ s_ (ac_ s_ (ac_ (by simp at D ⊢;omega) ?_))));refine ac_ s_ (ac_ (by simp at D ⊢;omega) ?_);refine pr_ (x:=nV_ s) (Nat.le_trans (lt_ _ _ _) V) (aa_ (λG=>?_) λG=>?_)
 .have:bB_ s=none:=by unfold bB_;rw[A,C,ed_ G];rfl
  rw[this]at r;exact r
 .have:bB_ s=some (nV_ s):=by unfold bB_;rw[A,C,eU_ G];rfl
  rw[this]at r;exact r
theorem pE_ (V:s.size<=140737488351232) (r:Q (.tup [.a ((bB_ s).getD kA_).cells,nN (JJ_ (bB_ s))]) H):fd_ [gS s] H Q:=by
 have Y:=kI_ s 2;refine⟨1,?_⟩;rw[su_];refine aa_ (λG=>?_) λG=>?_
 .have:bB_ s=none:=by unfold bB_;rw[show leI 3 (sz s)=false by simp at G ⊢;omega];rfl
  rw[this]at r;exact r
 have W:3<=s.size:=by simp at G;omega
 have A:leI 3 (sz s)=true:=by simp_all
 have N:tN 2=2:=rfl;have J:tN 1=1:=rfl;have U:tN 0=0:=rfl;have O:tN 3=3:=rfl;rw[U,J,N,O,eZ_,eZ_,eZ_,b5_ o_ o_];refine ac_ s_ ?_;refine aa_ (λI=>?_) λI=>?_
 .have:bB_ s=none:=by unfold bB_;rw[show leI (3+byt s 2) (sz s)=false by simp at I ⊢;omega,A];rfl
  rw[this]at r;exact r
 have C:leI (3+byt s 2) (sz s)=true:=by simp_all
 have D:(tN (3+byt s 2))<=s.size:=by simp_all
 refine ac_ s_ (ac_ s_ (ac_ s_ (ac_ s_ (ac_ (by simp at D ⊢;omega) ?_))));refine ac_ s_ (ac_ (by simp at D ⊢;omega) ?_);refine j1_ (x:=nV_ s) (Nat.le_trans (lt_ _ _ _) V) (aa_ (λF=>?_) λF=>?_)
 .have:bB_ s=none:=by unfold bB_;rw[A,C,ed_ F];rfl
  rw[this]at r;exact r
 .have:bB_ s=some (nV_ s):=by unfold bB_;rw[A,C,eU_ F];rfl
  rw[this]at r;exact r
theorem u7_ (G:s.size<=140737488351232) (r:Q (.tup [.a ((cI_ s).getD xJ_).cells,nN (JK_ (cI_ s))]) H):h9_ [gS s] H Q:=by
 refine⟨1,?_⟩;rw[zI_];refine aa_ (λD=>?_) λD=>?_
 .have F:s.size=0:=lj_.1 (by simp_all);have:cI_ s=none:=by unfold cI_;rw[show leI 1 (sz s)=false by simp;omega];rfl
  rw[this]at r;exact r
 have F:s.size≠0:=λz=>by rw[lj_.2 z]at D;simp at D
 have A:leI 1 (sz s)=true:=by simp;omega
 rw[show tN 0=0 from rfl,show tN 1=1 from rfl,eZ_];refine ac_ s_ (ac_ s_ ?_);refine nT_ (x:=tL_ s) (aa_ (λC=>?_) λC=>?_)
 .have:cI_ s=none:=by unfold cI_;rw[A,ed_ C];rfl
  rw[this]at r;exact r
 .have:cI_ s=some (tL_ s):=by unfold cI_;rw[A,eU_ C];rfl
  rw[this]at r;exact r
theorem oY_ (G:s.size<=140737488351232) (r:Q (.tup [.a ((cI_ s).getD xJ_).cells,nN (JK_ (cI_ s))]) H):ex_ [gS s] H Q:=by
 refine⟨1,?_⟩;rw[q8_];refine aa_ (λD=>?_) λD=>?_
 .have F:s.size=0:=lj_.1 (by simp_all);have:cI_ s=none:=by unfold cI_;rw[show leI 1 (sz s)=false by simp;omega];rfl
  rw[this]at r;exact r
 have F:s.size≠0:=λz=>by rw[lj_.2 z]at D;simp at D
 have A:leI 1 (sz s)=true:=by simp;omega
 rw[show tN 0=0 from rfl,show tN 1=1 from rfl,eZ_];refine ac_ s_ (ac_ s_ ?_);refine i6_ (x:=tL_ s) (aa_ (λC=>?_) λC=>?_)
 .have:cI_ s=none:=by unfold cI_;rw[A,ed_ C];rfl
  rw[this]at r;exact r
 .have:cI_ s=some (tL_ s):=by unfold cI_;rw[A,eU_ C];rfl
  rw[this]at r;exact r
end
end Go.Am
namespace Go.Am
def blt(a b:Y_):Bool:=Op.bytesLess (bs a) (bs b)
theorem hD_(a b:Y_):dy_ a b=blt a b:=jz_ a b
def Hs_:List Y_->Bool
 |[]=>true
 |[_]=>true
 |a::b::r=>Op.bytesLess (bs a) (bs b)&&Hs_ (b::r)
theorem vt_:∀xs:List Y_,Hs_ xs=true↔ib_ xs
 |[]=>⟨λ_ i h=>absurd h t_,λ_=>rfl⟩
 |[_]=>⟨λ_ i h=>absurd h t_,λ_=>rfl⟩
 | a::b::r=>by
  have F:=vt_ (b::r);simp[Hs_,F,<-jz_];constructor
  .rintro⟨D,C⟩ i A;cases i with
   |zero=>exact D
   |succ i=>exact C i g_
  .exact λh=>⟨h 0 t_,λi A=>h (i+1) g_⟩
def nodB:List Int->Bool
 |[]=>true
 |a::r=> !(r.contains a)&&nodB r
theorem BO_:∀xs:List Int,nodB xs=true↔xs.Nodup
 |[]=>by simp[nodB]
 |a::r=>by simp[nodB,BO_ r]
def DM_ (p:Pg):Bool:=p.used&&(Hs_ p.keys&&(p.keys.all (λk=>decide (1<=k.size)&&decide (k.size<=6))&&
 (match p.leaf with
  |true=>decide (p.vals.length=p.keys.length)&&(p.kids.isEmpty&&p.vals.all λv=>decide (v.size<=10))
  |false=>decide (1<=p.keys.length)&&(p.vals.isEmpty&&(decide (p.kids.length=p.keys.length+1)&&(p.kids.all (λk=>decide (1<=k)&&decide (k<48))&&nodB p.kids))))))
theorem E3_ (p:Pg):DM_ p=true↔iC_ p:=by
 have⟨u,l,r,A,is⟩:=p;cases l with
 |true=>
  simp[DM_,vt_];exact⟨λh=>⟨h.1,h.2.1,h.2.2.1,λ_=>h.2.2.2,λq=>g_⟩,λh=>⟨h.used,h.rising,h.keys,h.leaf rfl⟩⟩
 |false=>
  simp[DM_,vt_,BO_];exact⟨λh=>⟨h.1,h.2.1,h.2.2.1,λq=>g_,λ_=>h.2.2.2⟩,λh=>⟨h.used,h.rising,h.keys,h.inner rfl⟩⟩
def kz_(p:Pg):Bool:=decide (p.keys.length<=4)&&DM_ p
theorem d1_(p:Pg):kz_ p=true↔fa_ p:=by simp[kz_,fa_,E3_]
structure WS where
 met:List Bool
 deep:Nat
 count:Nat
def ge_(lo hi:Y_)(ks:List Y_):Bool:=ks.all λk=> !(blt k lo)&&(decide (hi.size=0)||blt k hi)
def loK(p:Pg)(lo:Y_)(i:Nat):Y_:=match decide (0<i) with|true=>p.keys[i-1]?.getD lo|false=>lo
def hiK(p:Pg)(hi:Y_)(i:Nat):Y_:=p.keys[i]?.getD hi
def gw_ (rec:Int->Nat->WS->Option WS):List Int->Nat->WS->Option WS
 |[],_,st=>some st
 |k::ks,i,st=>match rec k i st with
  |none=>none
  |some st'=>gw_ rec ks (i+1) st'
def okD(p:Pg)(at_:Nat)(lo hi:Y_)(st:WS):Bool:= !(st.met[at_]?.getD true)&&(kz_ p&&(!(decide (0<at_)&&decide (p.keys.length<2))&&ge_ lo hi p.keys))
def leafD (p:Pg) (deep:Nat) (st:WS):Option WS:=match decide (st.deep=0) with
 |true=>some ⟨st.met,deep,st.count+p.keys.length⟩
 |false=>match decide (st.deep=deep) with
  |true=>some ⟨st.met,deep,st.count+p.keys.length⟩
  |false=>none
def cJ_ (T:List Pg):Nat->Nat->Nat->Y_->Y_->WS->Option WS
 |0,_,_,_,_,_=>none
 | f+1,at_,deep,lo,hi,st=>match T[at_]? with
  |none=>none
  | some p=>match okD p at_ lo hi st with
   |false=>none
   |true=>match p.leaf with
    |true=>leafD p deep ⟨st.met.set at_ true,st.deep,st.count⟩
    |false=>gw_ (λk i s=>cJ_ T f k.toNat (deep+1) (loK p lo i) (hiK p hi i) s) p.kids 0 ⟨st.met.set at_ true,st.deep,st.count⟩
def cK_(p:Pg):Bool:= !p.used&&(!p.leaf&&(p.keys.isEmpty&&(p.vals.isEmpty&&p.kids.isEmpty)))
def hv_(T:List Pg)(met:List Bool):Bool:=(List.range T.length).all λi=>met[i]?.getD true||cK_ (T[i]?.getD noPg)
def ws0:WS:=⟨List.replicate 48 false,0,0⟩
def aI_ (T:List Pg):Nat:=match decide (T.length=48) with
 |false=>0
 | true=>match cJ_ T 49 0 1 (mkS []) (mkS []) ws0 with
  |none=>0
  |some st=>match hv_ T st.met&&decide (st.count<=60) with
   |true=>st.deep
   |false=>0
def gd_(met:List Bool):Nat:=(met.filter (! ·)).length
theorem op_:∀{met:List Bool}{i:Nat},met[i]?=some false->gd_ (met.set i true)+1=gd_ met
 |[],i,h=>by grind
 |b::met,0,h=>by simp at h;subst h;simp[gd_]
 |b::met,i+1,h=>by
  have:=op_ (met:=met) (i:=i) g_;unfold gd_ at this ⊢;grind
theorem iK_ (T:List Pg):∀f D A lo hi st C,cJ_ T f D A lo hi st=some C->gd_ C.met<=gd_ st.met/\C.met.length=st.met.length/\(1<=A->C.deep≠0)/\C.count+4*gd_ C.met<=st.count+4*gd_ st.met:=by
 intro f;induction f with
 |zero=>intro _ _ _ _ _ _ h;cases h
 | succ f ih=>
  intro D A lo hi st C h;unfold cJ_ at h;cases V:T[D]? with
  |none=>rw[V]at h;cases h
  | some p=>
   rw[V]at h;dsimp at h;cases r:okD p D lo hi st with
   |false=>rw[r]at h;cases h
   | true=>
    rw[r]at h;have hm:st.met[D]?=some false:=by
     unfold okD at r;rw[kR]at r;have:=r.1;cases U:st.met[D]? with
     |none=>rw[U]at this;simp at this
     |some b=>rw[U]at this;simp at this;rw[this]
    have hu:=op_ hm;have h4:p.keys.length<=4:=by
     unfold okD at r;simp only[kR]at r;exact ((d1_ p).1 r.2.1).1
    cases I:p.leaf with
    | true=>
     rw[I]at h;dsimp[leafD]at h;split at h
     .cases h;exact⟨by dsimp;omega,t_,λhd=>by dsimp;omega,by dsimp;omega⟩
     .split at h
      .cases h;exact⟨by dsimp;omega,t_,λhd=>by dsimp;omega,by dsimp;omega⟩
      .cases h
    | false=>
     rw[I]at h;have hk:p.kids≠[]:=by
      intro e;unfold okD at r;simp only[kR]at r;have:=((d1_ p).1 r.2.1).2.inner I;rw[e]at this;simp at this
     have key:∀G i (s F),gw_ (λk i s=>cJ_ T f k.toNat (A+1) (loK p lo i) (hiK p hi i) s) G i s=some F->gd_ F.met<=gd_ s.met/\F.met.length=s.met.length/\(G≠[]\/s.deep≠0->F.deep≠0)/\F.count+4*gd_ F.met<=s.count+4*gd_ s.met:=by
      intro G;induction G with
      |nil=>intro i s F h;cases h;exact⟨kO _,rfl,λq=>by simp_all,kO _⟩
      | cons k G J=>
       intro i s F h;unfold gw_ at h;cases N:cJ_ T f k.toNat (A+1) (loK p lo i) (hiK p hi i) s with
       |none=>rw[N]at h;cases h
       |some s1=>
        rw[N]at h;have⟨W,O,Z,Y⟩:=ih _ _ _ _ _ _ N;obtain⟨v1,v2,v3,v4⟩:=J _ _ _ h;omega
     obtain⟨W,O,Z,Y⟩:=key _ _ _ _ h;dsimp at W O Y;exact⟨o_,by rw[O];simp,λ_=>Z (.inl hk),o_⟩
theorem jK_ (T:List Pg) (f h r:Nat) (lo hi:Y_) (st:WS) (A:T[h]?=some p):cJ_ T (f+1) h r lo hi st=(match okD p h lo hi st with
 |false=>none
 |true=>match p.leaf with
  |true=>leafD p r ⟨st.met.set h true,st.deep,st.count⟩
  |false=>gw_ (λk i s=>cJ_ T f k.toNat (r+1) (loK p lo i) (hiK p hi i) s) p.kids 0 ⟨st.met.set h true,st.deep,st.count⟩):=by
 rw[cJ_,A]
end Go.Am

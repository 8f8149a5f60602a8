import Derived.Test.YtjbgjfikgpffmaaGreatM2
import Derived.OpenShut
import Derived.ShutString
import Derived.ChangeOld
import Derived.ProofKit
import Derived.WalkKit
set_option linter.all false
set_option autoImplicit true
set_option relaxedAutoImplicit true
set_option maxRecDepth 100000
namespace Go.Am
open List
open Go.Proofs.Tryz
variable{E:Nat->Sm}{k:Nat}{H:Hp}{Q:Post}{U X Y Z u w x x1 y z:Pl}{D L M N O l m n n1 o:Nat}{I g h i j:Int}{C b b1 b2 c d:Bool}{R S e r s t:ByteArray}{A a:Option Nat}{p q:List (Nat×Nat)}{F:Sm}
def aR_.cx:Cx:=⟨tys,[],[(2000000,[0])],[],[],av_,[.tmp 6]⟩
def aR_:=fF aR_.cx f228
theorem id_:ar_ aR_.cx f228 (k+1) [nL x n 1,i,j] H Q=cz 0 (nI n) (dv 0 j (leI 0 i) (chk (leN (tN i) (tN j)&&(leN (tN j) (tN (nI n))&&(leN (tN (nI n)) n&&n3_ H x (tN (nI n)*1)))) (bj i j (dZ Q x n 1 H) (cz 0 i (fq (leN 0 (tN i)&&(leN (tN i) n||kz_ H x (tN i*1))) (dv 0 j (leN (tN j) n) (aP (dg H (shf x (tN j*1)) ((n-tN j)*1) H 9 1 16 (shf x 0) (tN i-0) (n-tN j) (λa b c=>cz 0 (nI n) (dv 0 (nI b) (leN (tN (nI b)) (tN (nI n))&&(leN (tN (nI n)) b||kz_ c a (tN (nI n)*1))) (aP (clr c (shf a (tN (nI b)*1)) (tN (nI n)-tN (nI b)) [.str (mkS [])] (λc=>dZ Q a b 1 c))))))))))))):=zz
def fE_:an_ prog 228 (aR_):=sO eN nO func228
def dy_.cx:Cx:=⟨tys,[],[],[(4,[5,6,7])],[(227,ff_)],av_,[.cell 6 100]⟩
def dy_:=fF dy_.cx f246
def dy_.l4 k a b c d e f g h i j l m n o p q r s t u v w x y:=aS_ (dy_.cx) f246 4 k (B 5 (.bx [.bool a,.bool b,.sl c d 1,.sl e f 1,.sl g h 1]::.bx [.bool i,.bool j,.sl l m 1,.sl n o 1,.sl p q 1]::.bx [.bool r,.bool s,.sl t u 1,.sl v w 1,.sl x y 1]::B 30 []))
theorem Ac_:ar_ dy_.cx f246 (k+1) [.agg [b,c,.sl x n 1,.sl y m 1,.sl z l 1],s,.agg [C,d,.sl u o 1,.sl w N 1,.sl X M 1]] H Q=eJ ff_ [.agg [b,c,.sl x n 1,.sl y m 1,.sl z l 1]] H 1 1 1 λa b e f g h i j l=>aC c (dN a 9 1 16 f g [s] (λa c f=>dy_.l4 k C d u o w N X M false false none 0 none 0 none 0 b e a c h i j l f Q)) (dy_.l4 k C d u o w N X M false false none 0 none 0 none 0 b e f g h i j l a Q):=zz
theorem dy_.l4_eq:dy_.l4 (k+1) b c x n y m z l C d u o w N X M b1 b2 Y L Z O U D H Q=aP (dg H x (n*1) H 9 1 16 Y L n (λa b c=>aP (dg c y (m*1) c 9 1 16 Z O m (λc d e=>aP (dg e z (l*1) e 3 1 8 U D l (λe f g=>en Q [b1,b2,.sl a b 1,.sl c d 1,.sl e f 1] g)))))):=zz
def sa_:an_ prog 246 (dy_):=sO (eZ mi_ func227 eN) nO func246
def bH_.cx:Cx:=⟨tys,[],[],[],[],av_,[.tmp 2]⟩
def bH_:=fF bH_.cx f269
theorem i5_:ar_ bH_.cx f269 (k+1) [nL x n 1] H Q=cz 0 (nI n) (dv 0 (nI n) (leN 0 (tN (nI n))&&(leN (tN (nI n)) (tN (nI n))&&(leN (tN (nI n)) n&&n3_ H x (tN (nI n)*1)))) (dZ Q (shf x 0) (tN (nI n)-0) 1 H)):=zz
def i9_:an_ prog 269 (bH_):=sO eN nO func269
def c3_.cx:Cx:=⟨tys,[],[],[],[],av_,[.tmp 2]⟩
def c3_:=fF c3_.cx f270
theorem lB_:ar_ c3_.cx f270 (k+1) [nL x n 1] H Q=cz 0 (nI n) (dv 0 (nI n) (leN 0 (tN (nI n))&&(leN (tN (nI n)) (tN (nI n))&&(leN (tN (nI n)) n&&n3_ H x (tN (nI n)*1)))) (dZ Q (shf x 0) (tN (nI n)-0) 1 H)):=zz
def lq_:an_ prog 270 (c3_):=sO eN nO func270
def iB_.cx:Cx:=⟨tys,[],[],[],[(268,hf_),(246,dy_),(269,bH_),(270,c3_)],av_,[.cell 6 100,.tmp 7]⟩
def iB_:=fF iB_.cx f244
theorem zU_:ar_ iB_.cx f244 (k+1) [.agg [b,c,.sl x n 1,.sl y m 1,.sl z l 1],s,.agg [C,d,.sl u o 1,.sl w N 1,.sl X M 1]] H Q=dy hf_ [.agg [b,c,.sl x n 1,.sl y m 1,.sl z l 1]] H Q [.a [false,false,.sl none 0 1,.sl none 0 1,.sl none 0 1],nN 900] hf_ [.agg [C,d,.sl u o 1,.sl w N 1,.sl X M 1]] Q λa=>aK (eqB c d) Q [.a [false,false,.sl none 0 1,.sl none 0 1,.sl none 0 1],nN 900] a (eJ dy_ [.agg [b,c,.sl x n 1,.sl y m 1,.sl z l 1],s,.agg [C,d,.sl u o 1,.sl w N 1,.sl X M 1]] a 1 1 1 (λa b c d e f g h i=>aL hf_ [.agg [b,c,.sl d e 1,.sl f g 1,.sl h i 1]] a Q [.a [false,false,.sl none 0 1,.sl none 0 1,.sl none 0 1],nN 900] λa=>aE bH_ [nL d e 1] a 1 λa d e=>aE bH_ [nL f g 1] a 1 λa f g=>aE c3_ [nL h i 1] a 1 λa h i=>ax Q [.a [b,c,.sl d e 1,.sl f g 1,.sl h i 1],nN 0] a)):=zz
def AB_:an_ prog 244 (iB_):=sO (eZ uf_ func268 (eZ sa_ func246 (eZ i9_ func269 (eZ lq_ func270 eN)))) nO func244
def ch_.cx:Cx:=⟨tys,[],[(2000000,[0])],[],[],av_,[.tmp 6]⟩
def ch_:=fF ch_.cx f245
theorem kD_:ar_ ch_.cx f245 (k+1) [nL x n 1,i,j] H Q=cz 0 (nI n) (dv 0 j (leI 0 i) (chk (leN (tN i) (tN j)&&(leN (tN j) (tN (nI n))&&(leN (tN (nI n)) n&&n3_ H x (tN (nI n)*1)))) (bj i j (dZ Q x n 1 H) (cz 0 i (fq (leN 0 (tN i)&&(leN (tN i) n||kz_ H x (tN i*1))) (dv 0 j (leN (tN j) n) (aP (dg H (shf x (tN j*1)) ((n-tN j)*1) H 3 1 8 (shf x 0) (tN i-0) (n-tN j) (λa b c=>cz 0 (nI n) (dv 0 (nI b) (leN (tN (nI b)) (tN (nI n))&&(leN (tN (nI n)) b||kz_ c a (tN (nI n)*1))) (aP (clr c (shf a (tN (nI b)*1)) (tN (nI n)-tN (nI b)) [.int .i64 0] (λc=>dZ Q a b 1 c))))))))))))):=zz
def kB_:an_ prog 245 (ch_):=sO eN nO func245
def h7_.cx:Cx:=⟨tys,[],[],[],[(227,ff_)],av_,[.cell 4 100,.tmp 5,.cell 6 100]⟩
def h7_:=fF h7_.cx f247
theorem CR_:ar_ h7_.cx f247 (k+1) [.agg [b,c,.sl x n 1,.sl y m 1,.sl z l 1],i] H Q=bn (leI 0 i&&ltI i (nI n)) x H (tN i*1) λa d e=>eJ ff_ [.agg [b,c,.sl x n 1,.sl y m 1,.sl z l 1]] H 1 1 1 λf g h j o p q r s=>ah f a (d+tN i*1) λt=>eqv e t (eJ ff_ [.agg [b,c,.sl x n 1,.sl y m 1,.sl z l 1]] f 1 1 1 (λb f l m n t u v w=>ah b a (d+tN i*1) λa=>eqv e a (cz 0 i (chk (leN 0 (tN i)&&(leN (tN i) o||kz_ b j (tN i*1))) (cq_ c (cz 0 i (fq (leN 0 (tN i)&&(leN (tN i) q||kz_ b p (tN i*1))) (dv 0 i (leN (tN i) n) (cz 0 i (chk (leN (tN i) u) (ax Q [.a [g,h,.sl (shf j 0) (tN i-0) 1,.sl (shf p 0) (tN i-0) 1,.sl r s 1],e,.a [f,l,.sl (shf m (tN i*1)) (n-tN i) 1,.sl (shf t (tN i*1)) (u-tN i) 1,.sl v w 1]] b)))))) (cz 0 (ae_ .i64 (i+1)) (fq (leN 0 (tN (ae_ .i64 (i+1)))&&(leN (tN (ae_ .i64 (i+1))) s||kz_ b r (tN (ae_ .i64 (i+1))*1))) (dv 0 (ae_ .i64 (i+1)) (leN (tN (ae_ .i64 (i+1))) n) (cz 0 (ae_ .i64 (i+1)) (chk (leN (tN (ae_ .i64 (i+1))) w) (ax Q [.a [g,h,.sl (shf j 0) (tN i-0) 1,.sl p q 1,.sl (shf r 0) (tN (ae_ .i64 (i+1))-0) 1],e,.a [f,l,.sl (shf m (tN (ae_ .i64 (i+1))*1)) (n-tN (ae_ .i64 (i+1))) 1,.sl t u 1,.sl (shf v (tN (ae_ .i64 (i+1))*1)) (w-tN (ae_ .i64 (i+1))) 1]] b))))))))))):=zz
def ud_:an_ prog 247 (h7_):=sO (eZ mi_ func227 eN) nO func247
def dH_.cx:Cx:=⟨tys,[],[],[],[(244,iB_),(228,aR_),(245,ch_),(246,dy_),(247,h7_)],av_,[]⟩
def dH_:=fF dH_.cx f229
theorem nU_:ar_ dH_.cx f229 (k+1) [x,y,i] H Q=pS y λa b=>dw H a (b+4) 1 0 i i H (tN i*1) λa=>pS y λb c=>dw H b (c+4) 1 0 (ae_ .i64 (i+1)) (ae_ .i64 (i+1)) H (tN (ae_ .i64 (i+1))*1) λb=>cH x H 5 0 a a λc d=>aD H c (d+tN a*5) λe=>aD H c (d+tN a*5+1) λf=>bg H c (d+tN a*5+1+1) 1 H c (d+tN a*5+1+1+1) 1 λg h j l=>eu H c (d+tN a*5+1+1+1+1) λc d=>ff y H 1 0 i i λm n=>ah H m (n+tN i*1) λm=>cH x H 5 0 b b λn o=>aD H n (o+tN b*5) λp=>aD H n (o+tN b*5+1) λq=>bg H n (o+tN b*5+1+1) 1 H n (o+tN b*5+1+1+1) 1 λr s t u=>eu H n (o+tN b*5+1+1+1+1) λn o=>bk iB_ [.agg [e,f,.sl g h 1,.sl j l 1,.sl c d 1],m,.agg [p,q,.sl r s 1,.sl t u 1,.sl n o 1]] H λc d e=>cy e 1 1 1 λe f g h j l m n=>aZ d λd=>bj d 0 (bw x c 5 (λd o=>bw x c 5 λp q=>bN (leI 0 a&&ltI a (nI o)) d c (tN a*5) e (tN a*5) f (tN a*5) (.sl g h 1) (tN a*5) (.sl j l 1) (tN a*5) (.sl m n 1) λa=>bN (leI 0 b&&ltI b (nI q)) p a (tN b*5) false (tN b*5) false (tN b*5) (.sl none 0 1) (tN b*5) (.sl none 0 1) (tN b*5) (.sl none 0 1) λa=>cJ y a 1 λb c=>pS y λd e=>eu a d (e+4) λf g=>aE aR_ [nL b c 1,i,ae_ .i64 (i+1)] a 1 λa b c=>cF a d (e+4) 1 (nL f g 1) (aE ch_ [nL f g 1,ae_ .i64 (i+1),ae_ .i64 (i+2)] a 1 (λa d e=>pS y λf g=>dC a f (g+2) b c 1 λa=>pS y λb c=>fd a b (c+4) d e 1 Q [])))) (cH x c 5 0 a a (λd e=>aD c d (e+tN a*5) λf=>aD c d (e+tN a*5+1) λg=>bg c d (e+tN a*5+1+1) 1 c d (e+tN a*5+1+1+1) 1 λh j l m=>eu c d (e+tN a*5+1+1+1+1) λd e=>ff y c 1 0 i i λn o=>ah c n (o+tN i*1) λn=>cH x c 5 0 b b λo p=>aD c o (p+tN b*5) λq=>aD c o (p+tN b*5+1) λr=>bg c o (p+tN b*5+1+1) 1 c o (p+tN b*5+1+1+1) 1 λs t u v=>eu c o (p+tN b*5+1+1+1+1) λo p=>eJ dy_ [.agg [f,g,.sl h j 1,.sl l m 1,.sl d e 1],n,.agg [q,r,.sl s t 1,.sl u v 1,.sl o p 1]] c 1 1 1 λc d e f g h j l m=>dz x c 5 λn o p q=>pS y λr s=>eu c r (s+2) λt u=>dz x c 5 λv w x y=>bk h7_ [.agg [d,e,.sl f g 1,.sl h j 1,.sl l m 1],ae_ .i64 (Int.tdiv (nI g) 2)] c λc d e=>cy e 1 1 1 λe f g h j l m z=>af d λd A=>dS A λA=>ba d λd C=>cy C 1 1 1 λC D F G I J L M=>uE d (bU c v (w+0) 5 (nL x y 5) (cF c r (s+2) 1 (nL t u 1) (bU c n (o+0) 5 (nL p q 5) (bN (leI 0 a&&ltI a (nI q)) p c (tN a*5) e (tN a*5) f (tN a*5) (.sl g h 1) (tN a*5) (.sl j l 1) (tN a*5) (.sl m z 1) (λa=>aB (leI 0 i&&ltI i (nI u)) t λc d=>wr a c (d+tN i*1) A λa=>bM (leI 0 b&&ltI b (nI y)) x a (tN b*5) C (tN b*5) D (tN b*5) (.sl F G 1) (tN b*5) (.sl I J 1) λa c d=>fd d a (c+tN b*5+1+1+1+1) L M 1 Q []))))))):=zz
def ou_:an_ prog 229 (dH_):=sO (eZ AB_ func244 (eZ fE_ func228 (eZ kB_ func245 (eZ sa_ func246 (eZ ud_ func247 eN))))) nO func229
def a4_.cx S:=(⟨tys,[],[],[],[(226,cE_),(228,aR_),(225,gM_),(196,S),(229,dH_)],av_,[]⟩:Cx)
def a4_.st S:=fF (a4_.cx S) f196
theorem nZ_:ar_ (a4_.cx F) f196 (k+1) [x,i,s] H Q=cH x H 5 0 i i λa b=>dj H a (b+tN i*5+1) (eu H a (b+tN i*5+2) (λc d=>bz cE_ [nL c d 1,s] H λc d e=>aW d λd _=>uE d (bg c a (b+tN i*5+2) 1 c a (b+tN i*5+3) 1 (λd f g h=>aE aR_ [nL d f 1,e,ae_ .i64 (e+1)] c 1 λc d f=>cF c a (b+tN i*5+3) 1 (nL g h 1) (aE aR_ [nL g h 1,e,ae_ .i64 (e+1)] c 1 (λc e g=>aH c a (b+tN i*5+2) (.sl d f 1) a (b+tN i*5+3) (.sl e g 1) λa=>ax Q [] a)))))) (aG gM_ [.g (.ptr (some (a,b+tN i*5))),s] H (λc d=>dw c a (b+tN i*5+4) 1 0 d d c (tN d*1) λe=>cl F [x,e,s] c λ_ c=>bw x c 5 λe f=>dw c a (b+tN i*5+4) 1 0 d d c (tN d*1) λg=>aB (leI 0 g&&ltI g (nI f)) e λe f=>eu c e (f+tN g*5+2) λ_ e=>aw (nI e) 2 (eu c a (b+tN i*5+2) (λ_ e=>eg dH_ [x,.g (.ptr (some (a,b+tN i*5))),mnI d (ae_ .i64 (nI e-1))] c Q [])) (ax Q [] c))):=zz
def a4_.st_ok(S:Sm)(hS:de_ prog 196 S):an_ prog 196 (a4_.st S):=l7_.sound (cx:=a4_.cx S) rfl (eZ jB_ func226 (eZ fE_ func228 (eZ ok_ func225 (dT_.cons hS (eZ ou_ func229 eN))))) nO func196 rfl
def a4_.at:Nat->Sm
 |0=>λ_ _ _=>False
 |n+1=>a4_.st (a4_.at n)
def a4_:Sm:=λxs H Q=>∃n,a4_.at n xs H Q
def a4_.at_ok:∀n,an_ prog 196 (a4_.at n)
 |0=>λ_ _ _ h=>h.elim
 |n+1=>a4_.st_ok _ ((a4_.at_ok n).c ⟨_,func196,by kernel_rfl,by kernel_rfl⟩)
def nN_:an_ prog 196 (a4_):=an_.ex (a4_.at_ok)
def dM_.cx:Cx:=⟨tys,[],[],[],[],av_,[]⟩
def dM_:=fF dM_.cx f197
theorem nV_:ar_ dM_.cx f197 (k+1) [x] H Q=bw x H 5 λa b=>bF (leI 0 0&&ltI 0 (nI b)) a H (tN 0*5) λa b _=>aD H a (b+tN 0*5+1) λc=>eu H a (b+tN 0*5+1+1) λ_ d=>eu H a (b+tN 0*5+1+1+1) λ_ _=>eu H a (b+tN 0*5+1+1+1+1) λa b=>aC c (bj (nI d) 0 (bw x H 5 (λc d=>bw x H 5 λe f=>aM (leI 0 0&&ltI 0 (nI b)) a H (tN 0*1) λg=>bw x H 5 λh i=>aM (leI 0 0&&ltI 0 (nI b)) a H (tN 0*1) λa=>cL (leI 0 a&&ltI a (nI i)) h H (tN a*5) H (tN a*5) H (tN a*5) 1 H (tN a*5) 1 H (tN a*5) 1 (leI 0 0&&ltI 0 (nI d)) c H (tN 0*5) (tN 0*5) (tN 0*5) (tN 0*5) (tN 0*5) λa=>bM (leI 0 g&&ltI g (nI f)) e a (tN g*5) false (tN g*5) false (tN g*5) (.sl none 0 1) (tN g*5) (.sl none 0 1) λa b c=>fd c a (b+tN g*5+1+1+1+1) none 0 1 Q [])) (ax Q [] H)) (ax Q [] H):=zz
def oK_:an_ prog 197 (dM_):=sO eN nO func197
def c2_.cx:Cx:=⟨tys,[25],[],[(8,[4,8,10,25])],[(194,dx_),(195,cH_),(196,a4_),(197,dM_)],av_,[.cell 4 24,.tmp 5,.tmp 6]⟩
def c2_:=fF c2_.cx f160
def c2_.l8 k a b c d e f g:=aS_ (c2_.cx) f160 8 k (B 4 (.bx [.sl a b 5]::B 3 (gB c::.bad::.g (.ptr (some (d,e)))::B 14 (.g (.ptr (some (f,g)))::B 12 []))))
theorem we_:ar_ c2_.cx f160 (k+1) [.agg [.sl x n 5],s] H Q=bJ dx_ [.agg [.sl x n 5],s] H λa b _=>aW b λb c=>aZ b λb=>cE b 0 Q [.a [.sl none 0 5],false,nN 1300] a (bQ cH_ [.agg [.sl x n 5]] a 5 (λa b d=>cq_ c (cl a4_ [.g (.ptr (some (ln a,0))),nN 0,s] (pu a (.row true 242 [.sl b d 5])) (λ_ b=>cl dM_ [.g (.ptr (some (ln a,0)))] b λ_ b=>c2_.l8 k none 0 c (ln a) 0 (ln a) 0 b Q)) (c2_.l8 k none 0 c (ln a) 0 (ln a) 0 (pu a (.row true 242 [.sl b d 5])) Q))):=zz
theorem c2_.l8_eq:c2_.l8 (k+1) x n b m l o N H Q=aa H m (l+0) 5 λa c=>ax Q [.a [.sl a c 5],b,nN 0] H:=zz
def wB_:an_ prog 160 (c2_):=sO (eZ rJ_ func194 (eZ pN_ func195 (eZ nN_ func196 (eZ oK_ func197 eN)))) nO func160
def bk_.cx E:=(⟨tys,[1],[],[],[],E,[.tmp 2]⟩:Cx)
def bk_ E:=fF (bk_.cx E) f162
theorem fU_:ar_ (bk_.cx E) f162 (k+1) [.g (.map a)] H Q=cW Q (.fn 200 [(ln H,0)]) (pu H (.row true 206 [.map a])):=zz
def fV_(E)(h:eE E):an_ prog 162 (bk_ E):=sO eN h func162
def bP_.cx:Cx:=⟨tys,[],[(3,[3,9,10,11])],[],[],av_,[.tmp 2]⟩
def bP_:=fF bP_.cx f204
def bP_.l3 k a b c d e:=aS_ (bP_.cx) f204 3 k (B 3 (gI a::B 5 (nL b c 5::gI d::gI e::B 12 [])))
theorem qZ_:ar_ bP_.cx f204 (k+1) [x] H Q=bw x H 5 λa b=>bP_.l3 k 0 a b (nI b) 0 H Q:=zz
theorem bP_.l3_eq:bP_.l3 (k+1) i x n j h H Q=aw h j (bF (leI 0 h&&ltI h (nI n)) x H (tN h*5) (λa b _=>aD H a (b+tN h*5+1) λc=>eu H a (b+tN h*5+1+1) λ_ d=>eu H a (b+tN h*5+1+1+1) λ_ _=>eu H a (b+tN h*5+1+1+1+1) λ_ _=>cq_ c (bP_.l3 k (ae_ .i64 (i+nI d)) x n j (ae_ .i64 (h+1)) H Q) (bP_.l3 k i x n j (ae_ .i64 (h+1)) H Q))) (Q i H):=zz
def sj_:an_ prog 204 (bP_):=sO eN nO func204
def eL_.cx:Cx:=⟨tys,[],[],[],[],av_,[]⟩
def eL_:=fF eL_.cx f341
theorem ju_:ar_ eL_.cx f341 (k+1) [x,.g (.iface 3 (.int .i64 i))] H Q=cq x H 1 λa b=>dX 3 (.iface 3 (.int .i64 i)) λc=>ai c λc=>dN H 3 1 8 a b [c] λa b c=>pS x λd e=>fd c d e a b 1 Q []:=zz
def pi_:an_ prog 341 (eL_):=sO eN nO func341
def dl_.cx:Cx:=⟨tys,[],[],[],[],av_,[.tmp 2]⟩
def dl_:=fF dl_.cx f337
def j0_:an_ prog 337 (dl_):=sO eN nO func337
def cO_.cx:Cx:=⟨tys,[],[],[],[],av_,[.tmp 6]⟩
def cO_:=fF cO_.cx f338
theorem pm_:ar_ cO_.cx f338 (k+1) [nL x n 1,i,j] H Q=aM (leI 0 i&&ltI i (nI n)) x H (tN i*1) λa=>aM (leI 0 j&&ltI j (nI n)) x H (tN j*1) λb=>cX Q (ltI a b) H:=zz
def jp_:an_ prog 338 (cO_):=sO eN nO func338
def cw_.cx:Cx:=⟨tys,[],[],[],[],av_,[]⟩
def cw_:=fF cw_.cx f339
theorem pv_:ar_ cw_.cx f339 (k+1) [nL x n 1,i,j] H Q=aM (leI 0 j&&ltI j (nI n)) x H (tN j*1) λa=>aM (leI 0 i&&ltI i (nI n)) x H (tN i*1) λb=>aB (leI 0 i&&ltI i (nI n)) x λc d=>wr H c (d+tN i*1) a λa=>aB (leI 0 j&&ltI j (nI n)) x λc d=>bp a c (d+tN j*1) b Q []:=zz
def hd_:an_ prog 339 (cw_):=sO eN nO func339
def gt_.cx:Cx:=⟨tys,[],[(0,[0,1])],[],[(338,cO_),(339,cw_)],av_,[]⟩
def gt_:=fF gt_.cx f234
def gt_.l0 k a b:=aS_ (gt_.cx) f234 0 k (.g (.iface 252 (.ptr a))::gI b::B 21 [])
theorem gt_.l0_eq:gt_.l0 (k+1) x i H Q=bj (ae_ .i64 (Int.tdiv (ae_ .i64 (i-1)) 2)) i (ax Q [] H) (cq x H 1 (λa b=>aL cO_ [nL a b 1,i,ae_ .i64 (Int.tdiv (ae_ .i64 (i-1)) 2)] H Q [] λa=>cq x a 1 λb c=>cl cw_ [nL b c 1,ae_ .i64 (Int.tdiv (ae_ .i64 (i-1)) 2),i] a λ_ a=>gt_.l0 k x (ae_ .i64 (Int.tdiv (ae_ .i64 (i-1)) 2)) a Q)):=zz
def Dv_:an_ prog 234 (gt_):=sO (eZ jp_ func338 (eZ hd_ func339 eN)) nO func234
def iq_.cx:Cx:=⟨tys,[],[],[],[(341,eL_),(337,dl_),(234,gt_)],av_,[]⟩
def iq_:=fF iq_.cx f205
theorem Am_:ar_ iq_.cx f205 (k+1) [.g (.iface 252 (.ptr x)),.g (.iface 3 (.int .i64 i))] H Q=cl eL_ [x,.g (.iface 3 (.int .i64 i))] H λ_ a=>cq x a 1 λb c=>aG dl_ [nL b c 1] a λa b=>eg gt_ [.g (.iface 252 (.ptr x)),ae_ .i64 (b-1)] a Q []:=zz
def z7_:an_ prog 205 (iq_):=sO (eZ pi_ func341 (eZ j0_ func337 (eZ Dv_ func234 eN))) nO func205
def dn_.cx:Cx:=⟨tys,[],[],[(6,[1,2,4,6])],[(283,hG_),(247,h7_)],av_,[.cell 2 100,.tmp 3,.cell 4 100,.tmp 5]⟩
def dn_:=fF dn_.cx f265
def dn_.l6 k a b c d e f g h i j l m n o p q r s t u v w x y z:=aS_ (dn_.cx) f265 6 k (.bad::.bx [.bool a,.bool b,.sl c d 1,.sl e f 1,.sl g h 1]::.bx [.bool i,.bool j,.sl l m 1,.sl n o 1,.sl p q 1]::.bad::.bx [.bool r,.bool s,.sl t u 1,.sl v w 1,.sl x y 1]::.bad::gI z::B 26 [])
theorem yn_:ar_ dn_.cx f265 (k+1) [.agg [b,c,.sl x n 1,.sl y m 1,.sl z l 1]] H Q=cE (nI n) 5 Q [.a [false,false,.sl none 0 1,.sl none 0 1,.sl none 0 1],mkS [],.a [false,false,.sl none 0 1,.sl none 0 1,.sl none 0 1],nN 900] H (aL hG_ [.agg [b,c,.sl x n 1,.sl y m 1,.sl z l 1]] H Q [.a [false,false,.sl none 0 1,.sl none 0 1,.sl none 0 1],mkS [],.a [false,false,.sl none 0 1,.sl none 0 1,.sl none 0 1],nN 900] (λa=>cq_ c (dn_.l6 k b c x n y m z l false false none 0 none 0 none 0 false false none 0 none 0 none 0 3 a Q) (dn_.l6 k b c x n y m z l false false none 0 none 0 none 0 false false none 0 none 0 none 0 2 a Q))):=zz
theorem dn_.l6_eq:dn_.l6 (k+1) b c x n y m z l C d u o w N X M b1 b2 Y L Z O U D i H Q=bk h7_ [.agg [b,c,.sl x n 1,.sl y m 1,.sl z l 1],i] H λa b c=>cy c 1 1 1 λc d e f g h i j=>af b λb l=>dS l λl=>ba b λb m=>cy m 1 1 1 λm n o p q r s t=>uE b (ax Q [.a [c,d,.sl e f 1,.sl g h 1,.sl i j 1],l,.a [m,n,.sl o p 1,.sl q r 1,.sl s t 1],nN 0] a):=zz
def yC_:an_ prog 265 (dn_):=sO (eZ rx_ func283 (eZ ud_ func247 eN)) nO func265
def cm_.cx:Cx:=⟨tys,[],[(2,[0,1,2,7])],[(8,[0,1,2,7,9])],[(338,cO_),(339,cw_)],av_,[.tmp 6]⟩
def cm_:=fF cm_.cx f266
def cm_.l2 k a b c d:=aS_ (cm_.cx) f266 2 k (.g (.iface 252 (.ptr a))::gI b::gI c::B 4 (gI d::B 40 []))
def cm_.l8 k a b c d e:=aS_ (cm_.cx) f266 8 k (.g (.iface 252 (.ptr a))::gI b::gI c::B 4 (gI d::.bad::gI e::B 38 []))
theorem AG_:ar_ cm_.cx f266 (k+1) [.g (.iface 252 (.ptr x)),i,j] H Q=cm_.l2 k x i j i H Q:=zz
theorem cm_.l2_eq:cm_.l2 (k+1) x i j h H Q=bf j (ae_ .i64 (ae_ .i64 (2*h)+1)) (cX Q (ltI i h) H) (aw (ae_ .i64 (ae_ .i64 (2*h)+1)) 0 (cX Q (ltI i h) H) (aw (ae_ .i64 (ae_ .i64 (ae_ .i64 (2*h)+1)+1)) j (cq x H 1 (λa b=>aj cO_ [nL a b 1,ae_ .i64 (ae_ .i64 (ae_ .i64 (2*h)+1)+1),ae_ .i64 (ae_ .i64 (2*h)+1)] H λa b=>cq_ b (cm_.l8 k x i j h (ae_ .i64 (ae_ .i64 (ae_ .i64 (2*h)+1)+1)) a Q) (cm_.l8 k x i j h (ae_ .i64 (ae_ .i64 (2*h)+1)) a Q))) (cm_.l8 k x i j h (ae_ .i64 (ae_ .i64 (2*h)+1)) H Q))):=zz
theorem cm_.l8_eq:cm_.l8 (k+1) x i j h g H Q=cq x H 1 λa b=>aj cO_ [nL a b 1,g,h] H λa b=>aC b (cX Q (ltI i h) a) (cq x a 1 (λb c=>cl cw_ [nL b c 1,h,g] a λ_ a=>cm_.l2 k x i j g a Q)):=zz
def AE_:an_ prog 266 (cm_):=sO (eZ jp_ func338 (eZ hd_ func339 eN)) nO func266
def eu_.cx:Cx:=⟨tys,[],[],[],[],av_,[.tmp 2]⟩
def eu_:=fF eu_.cx f340
theorem qb_:ar_ eu_.cx f340 (k+1) [x] H Q=cq x H 1 λ_ a=>pS x λb c=>dw H b c 1 0 (ae_ .i64 (nI a-1)) (ae_ .i64 (nI a-1)) H (tN (ae_ .i64 (nI a-1))*1) λb=>cq x H 1 λc d=>cz 0 (ae_ .i64 (nI a-1)) (chk (leN 0 (tN (ae_ .i64 (nI a-1)))&&(leN (tN (ae_ .i64 (nI a-1))) d||kz_ H c (tN (ae_ .i64 (nI a-1))*1))) (pS x (λd e=>dC H d e (shf c 0) (tN (ae_ .i64 (nI a-1))-0) 1 λa=>cW Q (.iface 3 (.int .i64 b)) a))):=zz
def p1_:an_ prog 340 (eu_):=sO eN nO func340
def jb_.cx:Cx:=⟨tys,[],[],[],[(337,dl_),(339,cw_),(266,cm_),(340,eu_)],av_,[.tmp 2]⟩
def jb_:=fF jb_.cx f239
theorem Bf_:ar_ jb_.cx f239 (k+1) [.g (.iface 252 (.ptr x))] H Q=cq x H 1 λa b=>aG dl_ [nL a b 1] H λa b=>cq x a 1 λc d=>cl cw_ [nL c d 1,nN 0,ae_ .i64 (b-1)] a λ_ a=>aj cm_ [.g (.iface 252 (.ptr x)),nN 0,ae_ .i64 (b-1)] a λa _=>ac eu_ [x] a λa b=>Q b a:=zz
def CD_:an_ prog 239 (jb_):=sO (eZ j0_ func337 (eZ hd_ func339 (eZ AE_ func266 (eZ p1_ func340 eN)))) nO func239
def ck_.cx:Cx:=⟨tys,[],[],[],[(239,jb_)],av_,[.tmp 4]⟩
def ck_:=fF ck_.cx f207
theorem m1_:ar_ ck_.cx f207 (k+1) [x,.agg [b,c,.sl y n 1,.sl z m 1,.sl u l 1]] H Q=pS x λa d=>ac jb_ [.g (.iface 252 (.ptr (some (a,d+1))))] H λa d=>dX 3 d λd=>ai d λd=>cH x a 5 0 d d λe f=>aH a e (f+tN d*5) b e (f+tN d*5+1) c λa=>aH a e (f+tN d*5+1+1) (.sl y n 1) e (f+tN d*5+1+1+1) (.sl z m 1) λa=>dC a e (f+tN d*5+1+1+1+1) u l 1 λa=>Q d a:=zz
def ih_:an_ prog 207 (ck_):=sO (eZ CD_ func239 eN) nO func207
def bX_.cx:Cx:=⟨tys,[36],[],[],[(265,dn_),(207,ck_)],av_,[.tmp 4]⟩
def bX_:=fF bX_.cx f238
theorem ln_:ar_ bX_.cx f238 (k+1) [x,i] H Q=cH x H 5 0 i i λa b=>aD H a (b+tN i*5) λc=>aD H a (b+tN i*5+1) λd=>bg H a (b+tN i*5+1+1) 1 H a (b+tN i*5+1+1+1) 1 λe f g h=>eu H a (b+tN i*5+1+1+1+1) λa b=>bk dn_ [.agg [c,d,.sl e f 1,.sl g h 1,.sl a b 1]] H λa b c=>cy c 1 1 1 λc d e f g h j l=>af b λb m=>dS m λm=>ba b λb n=>cy n 1 1 1 λn o p q r s t u=>aZ b λb=>d8 b 0 (cW Q (.ptr none) a) (cH x a 5 0 i i (λb v=>aH a b (v+tN i*5) c b (v+tN i*5+1) d λa=>aH a b (v+tN i*5+1+1) (.sl e f 1) b (v+tN i*5+1+1+1) (.sl g h 1) λa=>dC a b (v+tN i*5+1+1+1+1) j l 1 λa=>aG ck_ [x,.agg [n,o,.sl p q 1,.sl r s 1,.sl t u 1]] a λa b=>cW Q (.ptr (some (ln a,0))) (pu a (.row true 257 [m,b])))):=zz
def hJ_:an_ prog 238 (bX_):=sO (eZ yC_ func265 (eZ ih_ func207 eN)) nO func238
def do_.cx:Cx:=⟨tys,[],[],[],[(226,cE_),(236,slices_Insert__string_string),(238,bX_)],av_,[.tmp 8]⟩
def do_:=fF do_.cx f235
theorem m5_:ar_ do_.cx f235 (k+1) [x,i,s,t] H Q=cH x H 5 0 i i λa b=>eu H a (b+tN i*5+2) λc d=>cw cE_ [nL c d 1,s] H λc d e=>cq_ e (cT c a (b+tN i*5+3) 1 0 d d (λa b=>wr c a (b+tN d*1) t λa=>cW Q (.ptr none) a)) (bg c a (b+tN i*5+2) 1 c a (b+tN i*5+3) 1 (λe f g h=>aE slices_Insert__string_string [nL e f 1,d,nL (some (ln c,0)) 1 1] (pu c (.row false 1000003 [s])) 1 λc e f=>cF c a (b+tN i*5+3) 1 (nL g h 1) (aE slices_Insert__string_string [nL g h 1,d,nL (some (ln c,0)) 1 1] (pu c (.row false 1000003 [t])) 1 (λc d g=>aH c a (b+tN i*5+2) (.sl e f 1) a (b+tN i*5+3) (.sl d g 1) λa=>ac bX_ [x,i] a λa b=>dP b λb=>Q b a)))):=zz
def nh_:an_ prog 235 (do_):=sO (eZ jB_ func226 (dT_.cons (fD_) (eZ hJ_ func238 eN))) nO func235
def a3_.cx S:=(⟨tys,[],[],[],[(235,do_),(225,gM_),(206,S),(236,slices_Insert__string_string),(237,slices_Insert__int_int),(238,bX_)],av_,[.tmp 8]⟩:Cx)
def a3_.st S:=fF (a3_.cx S) f206
theorem od_:ar_ (a3_.cx F) f206 (k+1) [x,i,s,t] H Q=cH x H 5 0 i i λa b=>dj H a (b+tN i*5+1) (ac do_ [x,i,s,t] H (λa b=>dP b λb=>Q b a)) (aG gM_ [.g (.ptr (some (a,b+tN i*5))),s] H (λc d=>dw c a (b+tN i*5+4) 1 0 d d c (tN d*1) λe=>ac F [x,e,s,t] c λc e=>dP e λe=>cq_ (isNone e) (cW Q (.ptr none) c) (eu c a (b+tN i*5+2) (λf g=>pS e λh j=>ah c h (j+0) λh=>eu c a (b+tN i*5+4) λj l=>pS e λe m=>aq c e (m+1) λn=>aE slices_Insert__string_string [nL f g 1,d,nL (some (ln c,0)) 1 1] (pu c (.row false 1000003 [h])) 1 λc f g=>aq c e (m+1) λe=>eqv n e (cF c a (b+tN i*5+4) 1 (nL j l 1) (aE slices_Insert__int_int [nL j l 1,ae_ .i64 (d+1),nL (some (ln c,0)) 1 1] (pu c (.row false 1000003 [n])) 1 (λc d e=>aH c a (b+tN i*5+2) (.sl f g 1) a (b+tN i*5+4) (.sl d e 1) λa=>ac bX_ [x,i] a λa b=>dP b λb=>Q b a))))))):=zz
def a3_.st_ok(S:Sm)(hS:de_ prog 206 S):an_ prog 206 (a3_.st S):=l7_.sound (cx:=a3_.cx S) rfl (eZ nh_ func235 (eZ ok_ func225 (dT_.cons hS (dT_.cons (fD_) (dT_.cons (kA_) (eZ hJ_ func238 eN)))))) nO func206 rfl
def a3_.at:Nat->Sm
 |0=>λ_ _ _=>False
 |n+1=>a3_.st (a3_.at n)
def a3_:Sm:=λxs H Q=>∃n,a3_.at n xs H Q
def a3_.at_ok:∀n,an_ prog 206 (a3_.at n)
 |0=>λ_ _ _ h=>h.elim
 |n+1=>a3_.st_ok _ ((a3_.at_ok n).c ⟨_,func206,by kernel_rfl,by kernel_rfl⟩)
def oC_:an_ prog 206 (a3_):=an_.ex (a3_.at_ok)
def br_.cx:Cx:=⟨tys,[3,48,92,98],[(8,[1,2,6,11,48,52,53,54])],[],[(201,eh_),(202,du_),(203,ct_),(194,dx_),(204,bP_),(195,cH_),(205,iq_),(206,a3_),(207,ck_)],av_,[.cell 6 24,.tmp 7]⟩
def br_:=fF br_.cx f163
def br_.l8 k a b c d e f g h i j l m:=aS_ (br_.cx) f163 8 k (.bad::gS a::gS b::B 3 (.bx [.sl c d 5]::B 4 (.g (.ptr (some (e,f)))::B 36 (.g (.ptr (some (g,h)))::B 3 (nL i j 5::gI l::gI m::B 51 [])))))
theorem tv_:ar_ br_.cx f163 (k+1) [.agg [.sl x n 5],s,t] H Q=aa (pu H (.row true 24 [.sl x n 5])) (ln H) 0 5 λa b=>dy eh_ [.agg [.sl a b 5]] (pu H (.row true 24 [.sl x n 5])) Q [.a [.sl none 0 5],nN 1200] du_ [s] Q λa=>aL ct_ [t] a Q [.a [.sl none 0 5],nN 1200] λa=>aa a (ln H) 0 5 λb c=>bJ dx_ [.agg [.sl b c 5],s] a λa b _=>aW b λb c=>bc b (aC c (aG bP_ [.g (.ptr (some (ln H,0)))] a (λa b=>eG 60 b Q [.a [.sl none 0 5],nN 1201] a (aa a (ln H) 0 5 (λb c=>bQ cH_ [.agg [.sl b c 5]] a 5 λa b c=>aa (pu a (.row true 250 [.sl b c 5,.sl none 0 1])) (ln a) 0 5 λd e=>br_.l8 k s t none 0 (ln a) 0 (ln a) 0 d e (nI e) 0 (pu a (.row true 250 [.sl b c 5,.sl none 0 1])) Q)))) (aa a (ln H) 0 5 (λb c=>bQ cH_ [.agg [.sl b c 5]] a 5 λa b c=>aa (pu a (.row true 250 [.sl b c 5,.sl none 0 1])) (ln a) 0 5 λd e=>br_.l8 k s t none 0 (ln a) 0 (ln a) 0 d e (nI e) 0 (pu a (.row true 250 [.sl b c 5,.sl none 0 1])) Q))):=zz
theorem br_.l8_eq:br_.l8 (k+1) s t x n m l o N y M i j H Q=aw j i (bG (leI 0 j&&ltI j (nI M)) y H (tN j*5) H (tN j*5) (λa b c _=>eu H a (b+tN j*5+1+1) λ_ _=>eu H a (b+tN j*5+1+1+1) λ_ _=>eu H a (b+tN j*5+1+1+1+1) λ_ _=>aC c (cl iq_ [.g (.iface 252 (.ptr (some (m,l+1)))),.g (.iface 3 (.int .i64 j))] H (λ_ a=>br_.l8 k s t x n m l o N y M i (ae_ .i64 (j+1)) a Q)) (br_.l8 k s t x n m l o N y M i (ae_ .i64 (j+1)) H Q))) (ac a3_ [.g (.ptr (some (m,l))),nN 0,s,t] H (λa b=>dP b λb=>aC (isNone b) (aa a m (l+0) 5 (λc d=>dK (leI 0 0&&ltI 0 (nI d)) c a (tN 0*5) a a 1 a 1 a 1 λc d e f g h i j=>aG ck_ [.g (.ptr (some (m,l))),.agg [c,d,.sl e f 1,.sl g h 1,.sl i j 1]] a λa c=>aa a m (l+0) 5 λd e=>pS b λf g=>ah a f (g+0) λh=>pS b λb i=>aq a b (i+1) λj=>H1_ (aq (pu a (.row true 9 [h])) b (i+1) (λb=>eqv j b (bU (pu a (.row true 9 [h])) m (l+0) 5 (nL d e 5) (ah (pu (pu a (.row true 9 [h])) (.row true 3 [c,j])) f (g+0) (λb=>eqv h b (bU (pu (pu a (.row true 9 [h])) (.row true 3 [c,j])) m (l+0) 5 (nL d e 5) (bN (leI 0 0&&ltI 0 (nI e)) d (pu (pu a (.row true 9 [h])) (.row true 3 [c,j])) (tN 0*5) true (tN 0*5) false (tN 0*5) (.sl (some (ln a,0)) 1 1) (tN 0*5) (.sl none 0 1) (tN 0*5) (.sl (some (ln (pu a (.row true 9 [.str h])),0)) 2 1) (λa=>eH a m (l+0) 5 Q (nN 0) a)))))))) (ah (pu a (.row true 3 [c,j])) f (g+0) (λf=>eqv h f (bU (pu a (.row true 3 [c,j])) m (l+0) 5 (nL d e 5) (aq (pu (pu a (.row true 3 [c,j])) (.row true 9 [h])) b (i+1) (λb=>eqv j b (bU (pu (pu a (.row true 3 [c,j])) (.row true 9 [h])) m (l+0) 5 (nL d e 5) (bN (leI 0 0&&ltI 0 (nI e)) d (pu (pu a (.row true 3 [c,j])) (.row true 9 [h])) (tN 0*5) true (tN 0*5) false (tN 0*5) (.sl (some (ln (pu a (.row true 3 [.int .i64 c,.int .i64 j])),0)) 1 1) (tN 0*5) (.sl none 0 1) (tN 0*5) (.sl (some (ln a,0)) 2 1) (λa=>eH a m (l+0) 5 Q (nN 0) a)))))))))) (eH a m (l+0) 5 Q (nN 0) a))):=zz
def tT_:an_ prog 163 (br_):=sO (eZ ku_ func201 (eZ kN_ func202 (eZ iL_ func203 (eZ rJ_ func194 (eZ sj_ func204 (eZ pN_ func195 (eZ z7_ func205 (eZ oC_ func206 (eZ ih_ func207 eN))))))))) nO func163
def aN_.cx E:=(⟨tys,[],[(5,[2,3,4,7,28,29,30]),(13,[2,3,4,7,59,60,61])],[],[(159,ap_),(130,hP_),(160,c2_),(162,(bk_ E)),(161,slices_Sorted_string),(163,br_)],E,[.cell 2 24]⟩:Cx)
def aN_ E:=fF (aN_.cx E) f115
def aN_.l5 E k a b c d e f g h i j:=aS_ (aN_.cx E) f115 5 k (.bad::.bad::.bx [.sl a b 5]::.bx [.sl c d 5]::gM e::.bad::.bad::gM f::B 20 (nL g h 2::gI i::gI j::B 60 []))
def aN_.l13 E k a b c d e f g h i j:=aS_ (aN_.cx E) f115 13 k (.bad::.bad::.bx [.sl a b 5]::.bx [.sl c d 5]::gM e::.bad::.bad::gM f::B 51 (nL g h 1::gI i::gI j::B 29 []))
theorem pf_:ar_ (aN_.cx E) f115 (k+1) [x] H Q=dz x H 5 λa b c d=>ac ap_ [x] H λe f=>dM f λf=>aa e a (b+0) 5 λa b=>eqv (.agg [.sl c d 5]) (.agg [.sl a b 5]) (bC hP_ [.agg [.sl c d 5]] e 2 (λa b e g=>bc b (aN_.l5 E k none 0 c d f (some (ln a)) e g (nI g) 0 (pu a (.map [] 0)) Q))):=zz
theorem aN_.l5_eq:aN_.l5 E (k+1) x n y m a A z l i j H Q=aw j i (bn (leI 0 j&&ltI j (nI l)) z H (tN j*2) (λb c d=>ah H b (c+tN j*2+1) λb=>dY H A [.str] d b λb=>da b a [.str] d (mkS []) λc e=>dm c λ_=>aC e (bW c2_ [.agg [.sl y m 5],d] b 5 (λb c d e=>aW c λc _=>bc c (aN_.l5 E k x n d e a A z l i (ae_ .i64 (j+1)) b Q))) (aN_.l5 E k x n y m a A z l i (ae_ .i64 (j+1)) b Q))) (ac (bk_ E) [.g (.map a)] H (λb c=>aE slices_Sorted_string [c] b 1 λb c d=>aN_.l13 E k x n y m a A c d (nI d) 0 b Q)):=zz
theorem aN_.l13_eq:aN_.l13 E (k+1) x n y m a A z l i j H Q=aw j i (aJ (leI 0 j&&ltI j (nI l)) z H (tN j*1) (λb=>da H A [.str] b (mkS []) λc d=>dm c λc=>aC d (da H a [.str] b (mkS []) (λc _=>dm c λc=>dU br_ [.agg [.sl y m 5],b,c] H 5 λb c d=>aN_.l13 E k x n c d a A z l i (ae_ .i64 (j+1)) b Q)) (da H a [.str] b (mkS []) (λd _=>dm d λd=>d9 c d (da H a [.str] b (mkS []) (λc _=>dm c λc=>dU br_ [.agg [.sl y m 5],b,c] H 5 λb c d=>aN_.l13 E k x n c d a A z l i (ae_ .i64 (j+1)) b Q)) (aN_.l13 E k x n y m a A z l i (ae_ .i64 (j+1)) H Q))))) (en Q [.sl y m 5] H):=zz
def px_(E)(h:eE E):an_ prog 115 (aN_ E):=sO (eZ l5_ func159 (eZ uA_ func130 (eZ wB_ func160 (eZ (fV_ E h) func162 (dT_.cons (fO_) (eZ tT_ func163 eN)))))) h func115
def gb_.cx E:=(⟨tys,[],[],[],[(78,(dU_ E)),(113,d2_),(114,bv_),(115,(aN_ E))],E,[.cell 6 24,.tmp 7]⟩:Cx)
def gb_ E:=fF (gb_.cx E) f58
theorem yi_:ar_ (gb_.cx E) f58 (k+1) [.agg [.sl x n 5],.g (.fn m p),.g (.fn l q)] H Q=fk (dU_ E) [.agg [.sl x n 5]] H Q [.a [.sl none 0 5],nN 2000] λa b=>cA b a 5 λc d=>aG (E m) (cpl [.g (.sl c d 5)] p) a λa c=>cE c 0 Q [.a [.sl none 0 5],c] a (cl (E l) (cpl [.g (.ptr b)] q) a (λ_ a=>aG d2_ [b] a λa c=>aw 60 c (dh (dU_ E) [.agg [.sl x n 5]] a (λa b c=>aW b λb _=>uE b (cl bv_ [c] a (λ_ a=>cl (E l) (cpl [.g (.ptr c)] q) a λ_ a=>bT (aN_ E) [c] a 5 Q (nN 0))))) (bT (aN_ E) [b] a 5 Q (nN 0)))):=zz
def pS_(E)(h:eE E):an_ prog 58 (gb_ E):=sO (eZ (uz_ E h) func78 (eZ po_ func113 (eZ oc_ func114 (eZ (px_ E h) func115 eN)))) h func58
def bQ_.cx:Cx:=⟨tys,[],[],[],[],av_,[.tmp 2]⟩
def bQ_:=fF bQ_.cx f221
theorem hr_:ar_ bQ_.cx f221 (k+1) [nL x n 5] H Q=cq_ (isNone x) (dZ Q none 0 5 H) (aP (cO H x (n*5) H 52 5 80 n (λa=>dZ Q (some (ln H,0)) n 5 a))):=zz
def hv_:an_ prog 221 (bQ_):=sO eN nO func221
def bA_.cx:Cx:=⟨tys,[],[],[],[],av_,[.tmp 2]⟩
def bA_:=fF bA_.cx f137
theorem ht_:ar_ bA_.cx f137 (k+1) [nL x n 3] H Q=cq_ (isNone x) (dZ Q none 0 3 H) (aP (cO H x (n*3) H 108 3 40 n (λa=>dZ Q (some (ln H,0)) n 3 a))):=zz
def hB_:an_ prog 137 (bA_):=sO eN nO func137
def cr_.cx:Cx:=⟨tys,[],[(3,[3,8,9])],[],[(221,bQ_),(137,bA_)],av_,[.tmp 2]⟩
def cr_:=fF cr_.cx f181
def cr_.l3 k a b c d:=aS_ (cr_.cx) f181 3 k (B 3 (nL a b 5::B 4 (gI c::gI d::B 14 [])))
theorem wt_:ar_ cr_.cx f181 (k+1) [nL x n 5] H Q=aE bQ_ [nL x n 5] H 5 λa b c=>cr_.l3 k b c (nI c) 0 a Q:=zz
theorem cr_.l3_eq:cr_.l3 (k+1) x n i j H Q=aw j i (bR (leI 0 j&&ltI j (nI n)) x H (tN j*5) 3 (λa b=>aE bA_ [nL a b 3] H 3 λa b c=>aB (leI 0 j&&ltI j (nI n)) x λd e=>dC a d (e+tN j*5+4) b c 3 λa=>cr_.l3 k x n i (ae_ .i64 (j+1)) a Q)) (dZ Q x n 5 H):=zz
def xE_:an_ prog 181 (cr_):=sO (eZ hv_ func221 (eZ hB_ func137 eN)) nO func181
def cs_.cx:Cx:=⟨tys,[],[(4,[0,11,12,13])],[],[(135,bz_),(103,c4_),(181,cr_)],av_,[.tmp 4,.tmp 5]⟩
def cs_:=fF cs_.cx f136
def cs_.l4 k a b c d e f:=aS_ (cs_.cx) f136 4 k (nL a b 5::B 10 (nL c d 1::gI e::gI f::B 9 []))
theorem vt_:ar_ cs_.cx f136 (k+1) [nL x n 5,nL y m 1] H Q=aL bz_ [nL x n 5] H Q [.s (.sl none 0 5),nN 1900] λa=>cs_.l4 k x n y m (nI m) 0 a Q:=zz
theorem cs_.l4_eq:cs_.l4 (k+1) x n y m i j H Q=aw j i (aJ (leI 0 j&&ltI j (nI m)) y H (tN j*1) (λa=>aL c4_ [a] H Q [.s (.sl none 0 5),nN 1901] λa=>cs_.l4 k x n y m i (ae_ .i64 (j+1)) a Q)) (aY cr_ [nL x n 5] H 5 Q (nN 0)):=zz
def vg_:an_ prog 136 (cs_):=sO (eZ pB_ func135 (eZ gh_ func103 (eZ xE_ func181 eN))) nO func136
def f4_.cx:Cx:=⟨tys,[],[],[],[(136,cs_),(104,fN_)],av_,[.tmp 4,.tmp 5,.tmp 6]⟩
def f4_:=fF f4_.cx f142
theorem uW_:ar_ f4_.cx f142 (k+1) [nL x n 5,nL y m 1] H Q=du cs_ [nL x n 5,nL y m 1] H 5 λa b c d=>cE d 0 Q [.s (.sl none 0 5),nN 0,d] a (aJ (leI 0 0&&ltI 0 (nI m)) y a (tN 0*1) (λd=>cw fN_ [nL b c 5,d] a λa d e=>aK e Q [.s (.sl none 0 5),nN 0,nN 1903] a (ax Q [.s (.sl b c 5),d,nN 0] a))):=zz
def vo_:an_ prog 142 (f4_):=sO (eZ vg_ func136 (eZ mg_ func104 eN)) nO func142
def fg_.cx:Cx:=⟨tys,[],[],[],[(142,f4_),(49,dr_)],av_,[.tmp 6,.tmp 7,.tmp 8]⟩
def fg_:=fF fg_.cx f110
theorem ww_:ar_ fg_.cx f110 (k+1) [nL x n 5,s,t] H Q=bC f4_ [nL x n 5,nL (some (ln H,0)) 1 1] (pu H (.row false 1000003 [s])) 5 λa b c d=>ay b λb e=>aZ b λb=>cE b 0 Q [.s (.sl none 0 5),.s (.ptr none),b] a (cp (leI 0 e&&ltI e (nI d)) c a (tN e*5) (λb=>cE b 0 Q [.s (.sl none 0 5),.s (.ptr none),nN 1905] a (aL dr_ [t] a Q [.s (.sl none 0 5),.s (.ptr none),nN 1907] (λa=>aB (leI 0 e&&ltI e (nI d)) c λb f=>ax Q [.s (.sl c d 5),.s (.ptr (some (b,f+tN e*5))),nN 0] a)))):=zz
def nI_:an_ prog 110 (fg_):=sO (eZ vo_ func142 (eZ hk_ func49 eN)) nO func110
def cg_.cx:Cx:=⟨tys,[],[],[(11,[2,3,10,11,13])],[(110,fg_),(111,dF_),(50,cM_),(112,slices_Insert__api_File_api_File)],av_,[.tmp 8,.tmp 9]⟩
def cg_:=fF cg_.cx f57
def cg_.l11 k a b c d e f:=aS_ (cg_.cx) f57 11 k (.bad::.bad::gS a::gS b::B 6 (nL c d 5::gP e::.bad::gI f::B 59 []))
theorem u8_:ar_ cg_.cx f57 (k+1) [nL x n 5,s,t,r] H Q=bC fg_ [nL x n 5,s,t] H 5 λa b c d=>af b λb e=>dP e λe=>bP b Q (.s (.sl none 0 5)) a (aL dF_ [r] a Q [.s (.sl none 0 5),nN 1909] (λa=>cA e a 3 λb f=>cw cM_ [nL b f 3,t] a λa b f=>aC f (cA e a 3 (λ_ g=>bj (nI g) 4 (ax Q [.s (.sl none 0 5),nN 1910] a) (aC f (cA e a 3 (λf g=>aE slices_Insert__api_File_api_File [nL f g 3,b,nL (some (ln a,0)) 1 3] (pu a (.row false 1000003 [mkS [],mkS [],false])) 3 λa f g=>pS e λh i=>dC a h (i+4) f g 3 λa=>cg_.l11 k t r c d e b a Q)) (cg_.l11 k t r c d e b a Q)))) (aC f (cA e a 3 (λf g=>aE slices_Insert__api_File_api_File [nL f g 3,b,nL (some (ln a,0)) 1 3] (pu a (.row false 1000003 [mkS [],mkS [],false])) 3 λa f g=>pS e λh i=>dC a h (i+4) f g 3 λa=>cg_.l11 k t r c d e b a Q)) (cg_.l11 k t r c d e b a Q)))):=zz
theorem cg_.l11_eq:cg_.l11 (k+1) s t x n y i H Q=pS y λa b=>cT H a (b+4) 3 0 i i λa b=>aH H a (b+tN i*3) s a (b+tN i*3+1) t λc=>bp c a (b+tN i*3+1+1) true Q [.s (.sl x n 5),nN 0]:=zz
def uQ_:an_ prog 57 (cg_):=sO (eZ nI_ func110 (eZ im_ func111 (eZ gY_ func50 (dT_.cons (eK_) eN)))) nO func57
def fy_.cx:Cx:=⟨tys,[],[],[],[(57,cg_)],av_,[.tmp 5]⟩
def fy_:=fF fy_.cx f56
theorem tb_:ar_ fy_.cx f56 (k+1) [nL x n 5,.g (.ptr (some (m,l))),.g (.ptr (some (o,N))),.g (.ptr (some (M,L)))] H Q=dD H m l H o N λa b=>ah H M L λc=>bC cg_ [nL x n 5,a,b,c] H 5 λa b _ _=>aZ b λb=>Q b a:=zz
def sv_:an_ prog 56 (fy_):=sO (eZ uQ_ func57 eN) nO func56
def c0_.cx E:=(⟨tys,[],[(2,[0,3])],[],[],E,[.tmp 2]⟩:Cx)
def c0_ E:=fF (c0_.cx E) f139
def c0_.l2 E k a b c:=aS_ (c0_.cx E) f139 2 k (.g (.fn a b)::.bad::.bad::gI c::B 6 [])
theorem wZ_:ar_ (c0_.cx E) f139 (k+1) [.g (.fn n p)] H Q=c0_.l2 E k n p 1 H Q:=zz
theorem c0_.l2_eq:c0_.l2 E (k+1) n p i H Q=aj (E n) (cpl [.g (.int .i64 i)] p) H λa b=>cq_ b (c0_.l2 E k n p (ae_ .i64 (i+1)) a Q) (Q i a):=zz
def wf_(E)(h:eE E):an_ prog 139 (c0_ E):=sO eN h func139
def cZ_.cx:Cx:=⟨tys,[],[],[],[],av_,[.tmp 3]⟩
def cZ_:=fF cZ_.cx f164
theorem lI_:ar_ cZ_.cx f164 (k+1) [i,.g (.ptr (some (n,m)))] H Q=rd H n m λa=>dP a λa=>bv a H λa=>da H a [.int .i64] i (.a [nN 0,mkS []]) λa b=>bm a λa _=>cY a (Q b H):=zz
def lm_:an_ prog 164 (cZ_):=sO eN nO func164
def dq_.cx:Cx:=⟨tys,[1],[],[],[(139,(c0_ (cW_ [(164,cZ_)])))],av_,[.tmp 2]⟩
def dq_:=fF dq_.cx f117
theorem nb_:ar_ dq_.cx f117 (k+1) [x] H Q=aG (c0_ (cW_ [(164,cZ_)])) [.g (.fn 164 [(ln H,0)])] (pu H (.row true 115 [x])) λa b=>Q b a:=zz
def mY_:an_ prog 117 (dq_):=sO (dT_.cons ((wf_ (cW_ [(164,cZ_)]) (gL_ (eZ lm_ func164 eN))).c ⟨_,func139,by kernel_rfl,by kernel_rfl⟩) eN) nO func117
def dW_.cx:Cx:=⟨tys,[],[],[],[],av_,[]⟩
def dW_:=fF dW_.cx f84
theorem pa_:ar_ dW_.cx f84 (k+1) [x,.agg [i,s],.agg [j,b]] H Q=bv x H λa=>ew H a [.int .i64] j (.a [nN 0,mkS []]) λa c=>cV a λa=>bv x H λd=>bX x H λe=>Dr_ H d false [.int .i64] j (.a [nN 0,mkS []]) λf g h=>bm f λf _=>cY f (Co_ h d (nI g) (.a [ae_ .i64 (c+1),a]) (λa=>Dr_ a e true [.int .i64,.str] (.a [i,s]) (.a [nN 0,false]) λa c d=>bm a λa _=>eO a (Co_ d e (nI c) (.a [j,b]) (λa=>ax Q [] a)))):=zz
def pk_:an_ prog 84 (dW_):=sO eN nO func84
def bq_.cx:Cx:=⟨tys,[],[],[(4,[0,3,8])],[(116,b3_),(117,dq_),(84,dW_)],av_,[]⟩
def bq_:=fF bq_.cx f60
def bq_.l4 k a b c d:=aS_ (bq_.cx) f60 4 k (gP a::.bad::.bad::gS b::B 4 (.bx [.int .i64 c,.str d]::B 39 []))
theorem nK_:ar_ bq_.cx f60 (k+1) [x,s,t,r] H Q=bY x H λa=>ew H a [.str] s (.a [nN 0,nN 0,mkS [],mkS []]) λa b=>eQ a λa _=>cY a (bX x H (λa=>sI_ H a true [.int .i64,.str] (.a [b,t]) (.a [nN 0,false]) λa c=>bm a λa _=>eO a (cq_ c (cl b3_ [x,.agg [b,t]] H (λ_ a=>bq_.l4 k x r b t a Q)) (bq_.l4 k x r b t H Q)))):=zz
theorem bq_.l4_eq:bq_.l4 (k+1) x s i t H Q=aG dq_ [x] H λa b=>bv x a λc=>dY a c [.int .i64] b (.a [nN 0,s]) λa=>eg dW_ [x,.agg [i,t],.agg [b,true]] a Q []:=zz
def nt_:an_ prog 60 (bq_):=sO (eZ gm_ func116 (eZ mY_ func117 (eZ pk_ func84 eN))) nO func60
def fr_.cx:Cx:=⟨tys,[],[],[],[(60,bq_)],av_,[]⟩
def fr_:=fF fr_.cx f59
theorem sY_:ar_ fr_.cx f59 (k+1) [x,.g (.ptr (some (n,m))),.g (.ptr (some (l,o))),.g (.ptr (some (N,M)))] H Q=dD H n m H l o λa b=>ah H N M λc=>eg bq_ [x,a,b,c] H Q []:=zz
def t1_:an_ prog 59 (fr_):=sO (eZ nt_ func60 eN) nO func59
def ds_.cx:Cx:=⟨tys,[5,6,7],[],[],[(58,(gb_ (cW_ [(56,fy_),(59,fr_)])))],av_,[.cell 8 24,.tmp 9]⟩
def ds_:=fF ds_.cx f17
theorem xx_:ar_ ds_.cx f17 (k+1) [.agg [.sl x n 5],s,t,r] H Q=fg (gb_ (cW_ [(56,fy_),(59,fr_)])) [.agg [.sl x n 5],.g (.fn 56 [(ln H,0),(ln (pu H (.row true 9 [.str s])),0),(ln (pu (pu H (.row true 9 [.str s])) (.row true 9 [.str t])),0)]),.g (.fn 59 [(ln H,0),(ln (pu H (.row true 9 [.str s])),0),(ln (pu (pu H (.row true 9 [.str s])) (.row true 9 [.str t])),0)])] (pu (pu (pu H (.row true 9 [s])) (.row true 9 [t])) (.row true 9 [r])) 5 λa b c d=>ax Q [.a [.sl b c 5],d] a:=zz
def ot_:an_ prog 17 (ds_):=sO (dT_.cons ((pS_ (cW_ [(56,fy_),(59,fr_)]) (gL_ (eZ sv_ func56 (eZ t1_ func59 eN)))).c ⟨_,func58,by kernel_rfl,by kernel_rfl⟩) eN) nO func17
def bw_.cx:Cx:=⟨tys,[],[(2000000,[0])],[],[],av_,[.tmp 6]⟩
def bw_:=fF bw_.cx f118
theorem hm_:ar_ bw_.cx f118 (k+1) [nL x n 3,i,j] H Q=cz 0 (nI n) (dv 0 j (leI 0 i) (chk (leN (tN i) (tN j)&&(leN (tN j) (tN (nI n))&&(leN (tN (nI n)) n&&n3_ H x (tN (nI n)*3)))) (bj i j (dZ Q x n 3 H) (cz 0 i (fq (leN 0 (tN i)&&(leN (tN i) n||kz_ H x (tN i*3))) (dv 0 j (leN (tN j) n) (aP (dg H (shf x (tN j*3)) ((n-tN j)*3) H 108 3 40 (shf x 0) (tN i-0) (n-tN j) (λa b c=>cz 0 (nI n) (dv 0 (nI b) (leN (tN (nI b)) (tN (nI n))&&(leN (tN (nI n)) b||kz_ c a (tN (nI n)*3))) (aP (clr c (shf a (tN (nI b)*3)) (tN (nI n)-tN (nI b)) [.str (mkS []),.str (mkS []),.bool false] (λc=>dZ Q a b 3 c))))))))))))):=zz
def hg_:an_ prog 118 (bw_):=sO eN nO func118
def fx_.cx:Cx:=⟨tys,[],[],[],[(110,fg_),(50,cM_),(118,bw_)],av_,[.tmp 6,.tmp 7]⟩
def fx_:=fF fx_.cx f62
theorem tG_:ar_ fx_.cx f62 (k+1) [nL x n 5,s,t] H Q=bC fg_ [nL x n 5,s,t] H 5 λa b c d=>af b λb e=>dP e λe=>bP b Q (.s (.sl none 0 5)) a (cA e a 3 (λb f=>cw cM_ [nL b f 3,t] a λa b f=>aK f Q [.s (.sl none 0 5),nN 1908] a (cA e a 3 (λf g=>aE bw_ [nL f g 3,b,ae_ .i64 (b+1)] a 3 λa b f=>pS e λe g=>fd a e (g+4) b f 3 Q [.s (.sl c d 5),nN 0])))):=zz
def t0_:an_ prog 62 (fx_):=sO (eZ nI_ func110 (eZ gY_ func50 (eZ hg_ func118 eN))) nO func62
def eR_.cx:Cx:=⟨tys,[],[],[],[(62,fx_)],av_,[.tmp 4]⟩
def eR_:=fF eR_.cx f61
theorem rd_:ar_ eR_.cx f61 (k+1) [nL x n 5,.g (.ptr (some (m,l))),.g (.ptr (some (o,N)))] H Q=dD H m l H o N λa b=>bC fx_ [nL x n 5,a,b] H 5 λa b _ _=>aZ b λb=>Q b a:=zz
def rO_:an_ prog 61 (eR_):=sO (eZ t0_ func62 eN) nO func61
def dm_.cx:Cx:=⟨tys,[],[],[],[(116,b3_)],av_,[]⟩
def dm_:=fF dm_.cx f64
theorem m9_:ar_ dm_.cx f64 (k+1) [x,s,t] H Q=bY x H λa=>ew H a [.str] s (.a [nN 0,nN 0,mkS [],mkS []]) λa b=>eQ a λa _=>cY a (eg b3_ [x,.agg [b,t]] H Q []):=zz
def m2_:an_ prog 64 (dm_):=sO (eZ gm_ func116 eN) nO func64
def eQ_.cx:Cx:=⟨tys,[],[],[],[(64,dm_)],av_,[]⟩
def eQ_:=fF eQ_.cx f63
theorem rk_:ar_ eQ_.cx f63 (k+1) [x,.g (.ptr (some (n,m))),.g (.ptr (some (l,o)))] H Q=dD H n m H l o λa b=>eg dm_ [x,a,b] H Q []:=zz
def rC_:an_ prog 63 (eQ_):=sO (eZ m2_ func64 eN) nO func63
end Go.Am
namespace Go.Am
open List
open Go.Proofs.Tryz
variable{E:Nat->Sm}{k:Nat}{H:Hp}{Q:Post}{U X Y Z u w x x1 y z:Pl}{D L M N O l m n n1 o:Nat}{I g h i j:Int}{C b b1 b2 c d:Bool}{R S e r s t:ByteArray}{A a:Option Nat}{p q:List (Nat×Nat)}{F:Sm}
def dh_.cx:Cx:=⟨tys,[4,5],[],[],[(58,(gb_ (cW_ [(61,eR_),(63,eQ_)])))],av_,[.cell 6 24,.tmp 7]⟩
def dh_:=fF dh_.cx f18
theorem vw_:ar_ dh_.cx f18 (k+1) [.agg [.sl x n 5],s,t] H Q=fg (gb_ (cW_ [(61,eR_),(63,eQ_)])) [.agg [.sl x n 5],.g (.fn 61 [(ln H,0),(ln (pu H (.row true 9 [.str s])),0)]),.g (.fn 63 [(ln H,0),(ln (pu H (.row true 9 [.str s])),0)])] (pu (pu H (.row true 9 [s])) (.row true 9 [t])) 5 λa b c d=>ax Q [.a [.sl b c 5],d] a:=zz
def mR_:an_ prog 18 (dh_):=sO (dT_.cons ((pS_ (cW_ [(61,eR_),(63,eQ_)]) (gL_ (eZ rO_ func61 (eZ rC_ func63 eN)))).c ⟨_,func58,by kernel_rfl,by kernel_rfl⟩) eN) nO func18
def eb_.cx:Cx:=⟨tys,[],[],[],[],av_,[.tmp 2]⟩
def eb_:=fF eb_.cx f19
def uB_:an_ prog 19 (eb_):=sO eN nO func19
def bO_.cx:Cx:=⟨tys,[],[(4,[0,1,5])],[],[],av_,[.tmp 4]⟩
def bO_:=fF bO_.cx f119
def bO_.l4 k a b c d e:=aS_ (bO_.cx) f119 4 k (nL a b 1::nL c d 1::B 3 (gI e::B 20 []))
theorem kO_:ar_ bO_.cx f119 (k+1) [nL x n 1,nL y m 1] H Q=cU (nI n) (nI m) Q H (bO_.l4 k x n y m 0 H Q):=zz
theorem bO_.l4_eq:bO_.l4 (k+1) x n y m i H Q=bV i n (aJ (leI 0 i&&ltI i (nI n)) x H (tN i*1) (λa=>aJ (leI 0 i&&ltI i (nI m)) y H (tN i*1) λb=>bt (er_ a b) Q H (bO_.l4 k x n y m (ae_ .i64 (i+1)) H Q))) (Q true H):=zz
def rX_:an_ prog 119 (bO_):=sO eN nO func119
def ci_.cx:Cx:=⟨tys,[],[(4,[0,1,5])],[],[],av_,[.tmp 4]⟩
def ci_:=fF ci_.cx f120
def ci_.l4 k a b c d e:=aS_ (ci_.cx) f120 4 k (nL a b 1::nL c d 1::B 3 (gI e::B 20 []))
theorem lP_:ar_ ci_.cx f120 (k+1) [nL x n 1,nL y m 1] H Q=cU (nI n) (nI m) Q H (ci_.l4 k x n y m 0 H Q):=zz
theorem ci_.l4_eq:ci_.l4 (k+1) x n y m i H Q=bV i n (aM (leI 0 i&&ltI i (nI n)) x H (tN i*1) (λa=>aM (leI 0 i&&ltI i (nI m)) y H (tN i*1) λb=>cU a b Q H (ci_.l4 k x n y m (ae_ .i64 (i+1)) H Q))) (Q true H):=zz
def tF_:an_ prog 120 (ci_):=sO eN nO func120
def fp_.cx:Cx:=⟨tys,[],[],[],[(119,bO_),(120,ci_)],av_,[.tmp 4]⟩
def fp_:=fF fp_.cx f65
theorem sK_:ar_ fp_.cx f65 (k+1) [.agg [b,c,.sl x n 1,.sl y m 1,.sl z l 1],.agg [C,d,.sl u o 1,.sl w N 1,.sl X M 1]] H Q=cK (eqB b C) Q H (cK (eqB c d) Q H (cM bO_ [nL x n 1,nL u o 1] H Q (λa=>cM bO_ [nL y m 1,nL w N 1] a Q λa=>bO ci_ [nL z l 1,nL X M 1] a Q))):=zz
def sw_:an_ prog 65 (fp_):=sO (eZ rX_ func119 (eZ tF_ func120 eN)) nO func65
def bU_.cx:Cx:=⟨tys,[],[(4,[2,3,5])],[],[(65,fp_)],av_,[.tmp 4]⟩
def bU_:=fF bU_.cx f20
def bU_.l4 k a b c d e:=aS_ (bU_.cx) f20 4 k (.bad::.bad::.bx [.sl a b 5]::.bx [.sl c d 5]::.bad::gI e::B 26 [])
theorem t2_:ar_ bU_.cx f20 (k+1) [.agg [.sl x n 5],.agg [.sl y m 5]] H Q=cU (nI n) (nI m) Q H (bU_.l4 k x n y m 0 H Q):=zz
theorem bU_.l4_eq:bU_.l4 (k+1) x n y m i H Q=bV i n (dK (leI 0 i&&ltI i (nI n)) x H (tN i*5) H H 1 H 1 H 1 (λa b c d e f g h=>dK (leI 0 i&&ltI i (nI m)) y H (tN i*5) H H 1 H 1 H 1 λj l o p q r s t=>bK fp_ [.agg [a,b,.sl c d 1,.sl e f 1,.sl g h 1],.agg [j,l,.sl o p 1,.sl q r 1,.sl s t 1]] H Q λa=>bU_.l4 k x n y m (ae_ .i64 (i+1)) a Q)) (Q true H):=zz
def lt_:an_ prog 20 (bU_):=sO (eZ sw_ func65 eN) nO func20
def dz_.cx:Cx:=⟨tys,[],[],[],[(28,bM_),(66,ax_)],av_,[.tmp 2,.tmp 3]⟩
def dz_:=fF dz_.cx f21
theorem xi_:ar_ dz_.cx f21 (k+1) [.agg [.sl x n 5]] H Q=fk bM_ [.agg [.sl x n 5]] H Q [.s (.sl none 0 5),nN 2000] λa b=>aY ax_ [b] a 5 Q (nN 0):=zz
def kl_:an_ prog 21 (dz_):=sO (eZ iX_ func28 (eZ ea_ func66 eN)) nO func21
def gK_.cx:Cx:=⟨tys,[2],[],[],[],av_,[.cell 0 24]⟩
def gK_:=fF gK_.cx f44
theorem BV_:ar_ gK_.cx f44 (k+1) [] H Q=ak (leI 0 0&&ltI 0 (nI (tN 48))) (aH (pu H (.row true 100 (lo_ (tN 48) [.bool false,.bool false,.sl none 0 1,.sl none 0 1,.sl none 0 1]))) (ln H) (0+tN 0*5) true (ln H) (0+tN 0*5+1) true (λa=>aH a (ln H) (0+tN 0*5+1+1) (.sl none 0 1) (ln H) (0+tN 0*5+1+1+1) (.sl none 0 1) λa=>dC a (ln H) (0+tN 0*5+1+1+1+1) none 0 1 λa=>en Q [.sl (some (ln H,0)) (tN 48) 5] a)):=zz
def nQ_:an_ prog 44 (gK_):=sO eN nO func44
def bd_.cx:Cx:=⟨tys,[],[(3,[0,3,4])],[],[],av_,[.tmp 2]⟩
def bd_:=fF bd_.cx f69
def bd_.l3 k a b c d e:=aS_ (bd_.cx) f69 3 k (nL a b 5::.bad::.bad::nL c d 5::gI e::B 21 [])
theorem ya_:ar_ bd_.cx f69 (k+1) [nL x n 5] H Q=bd_.l3 k x n none 0 0 H Q:=zz
theorem bd_.l3_eq:bd_.l3 (k+1) x n y m i H Q=bV i n (cS (leI 0 i&&ltI i (nI n)) x H (tN i*5) H H H H 3 (λa b c d e f=>aP (cO H e (f*3) H 108 3 40 f (λe=>dN e 52 5 80 y m [a,b,c,d,.sl (some (ln H,0)) f 3] λa b c=>bd_.l3 k x n a b (ae_ .i64 (i+1)) c Q)))) (dZ Q y m 5 H):=zz
def iG_:an_ prog 69 (bd_):=sO eN nO func69
def a5_.cx:Cx:=⟨tys,[],[(4,[0,3,5,6,7])],[(9,[0,3,5,6,7])],[],av_,[.tmp 4]⟩
def a5_:=fF a5_.cx f96
def a5_.l4 k a b c d e f g h i j l m:=aS_ (a5_.cx) f96 4 k (nL a b 5::.bad::.bad::.bx [.str c,.int .i64 d,.str e,.str f,.sl g h 3]::.bad::nL i j 5::gB l::gI m::B 36 [])
def a5_.l9 k a b c d e f g h i j l m:=aS_ (a5_.cx) f96 9 k (nL a b 5::.bad::.bad::.bx [.str c,.int .i64 d,.str e,.str f,.sl g h 3]::.bad::nL i j 5::gB l::gI m::B 36 [])
theorem yv_:ar_ a5_.cx f96 (k+1) [nL x n 5,.agg [s,i,t,r,.sl y m 3]] H Q=a5_.l4 k x n s i t r y m none 0 false 0 H Q:=zz
theorem a5_.l4_eq:a5_.l4 (k+1) x n s i t r y m z l b j H Q=bV j n (aC b (bq (leI 0 j&&ltI j (nI n)) x H (tN j*5) (λa=>aC (dQ_ a s||er_ a s) (dN H 52 5 80 z l [s,i,t,r,.sl y m 3] (λa b c=>a5_.l9 k x n s i t r y m a b true j c Q)) (a5_.l9 k x n s i t r y m z l b j H Q))) (a5_.l9 k x n s i t r y m z l b j H Q)) (aC b (dN H 52 5 80 z l [s,i,t,r,.sl y m 3] (λa b c=>dZ Q a b 5 c)) (dZ Q z l 5 H)):=zz
theorem a5_.l9_eq:a5_.l9 (k+1) x n s i t r y m z l b j H Q=cS (leI 0 j&&ltI j (nI n)) x H (tN j*5) H H H H 3 λa c d e f g=>dN H 52 5 80 z l [a,c,d,e,.sl f g 3] λa c d=>a5_.l4 k x n s i t r y m a c b (ae_ .i64 (j+1)) d Q:=zz
def pC_:an_ prog 96 (a5_):=sO eN nO func96
def bg_.cx:Cx:=⟨tys,[],[(17,[0,10,11,12])],[],[(95,co_),(29,aW_),(51,bf_),(69,bd_),(96,a5_)],av_,[.tmp 8,.tmp 9]⟩
def bg_:=fF bg_.cx f37
def bg_.l17 k a b c d e f g h i j:=aS_ (bg_.cx) f37 17 k (nL a b 5::B 9 (gI c::.bx [.str d,.int .i64 e,.str f,.str g,.sl h i 3]::gI j::B 87 []))
theorem tD_:ar_ bg_.cx f37 (k+1) [nL x n 5,s,t,i] H Q=aG co_ [nL x n 5,t] H λa b=>dx aW_ [nL x n 5] a Q [.s (.sl none 0 5),nN 1900] bf_ [s] Q [.s (.sl none 0 5),nN 1901] λa=>eM t [] (aL bf_ [t] a Q [.s (.sl none 0 5),nN 1901] (λa=>d8 i 0 (cE i 1 Q [.s (.sl none 0 5),nN 1905] a (aG co_ [nL x n 5,s] a (λa c=>eG 0 c Q [.s (.sl none 0 5),nN 1902] a (eM t [] (dV b 0 Q [.s (.sl none 0 5),nN 1904] a (cp (leI 0 b&&ltI b (nI n)) x a (tN b*5) (λc=>cE c 2 Q [.s (.sl none 0 5),nN 1904] a (eG 6 (nI n) Q [.s (.sl none 0 5),nN 1910] a (bf 0 b (bg_.l17 k x n b s i t (mkS []) none 0 0 a Q) (eS bd_ [nL x n 5] a 5 a5_ [s,i,t,mkS [],.sl none 0 3] 5 Q (nN 0))))))) (eG 6 (nI n) Q [.s (.sl none 0 5),nN 1910] a (bf 0 b (bg_.l17 k x n b s i t (mkS []) none 0 0 a Q) (eS bd_ [nL x n 5] a 5 a5_ [s,i,t,mkS [],.sl none 0 3] 5 Q (nN 0)))))))) (aG co_ [nL x n 5,s] a (λa c=>eG 0 c Q [.s (.sl none 0 5),nN 1902] a (eM t [] (dV b 0 Q [.s (.sl none 0 5),nN 1904] a (cp (leI 0 b&&ltI b (nI n)) x a (tN b*5) (λc=>cE c 2 Q [.s (.sl none 0 5),nN 1904] a (eG 6 (nI n) Q [.s (.sl none 0 5),nN 1910] a (bf 0 b (bg_.l17 k x n b s i t (mkS []) none 0 0 a Q) (eS bd_ [nL x n 5] a 5 a5_ [s,i,t,mkS [],.sl none 0 3] 5 Q (nN 0))))))) (eG 6 (nI n) Q [.s (.sl none 0 5),nN 1910] a (bf 0 b (bg_.l17 k x n b s i t (mkS []) none 0 0 a Q) (eS bd_ [nL x n 5] a 5 a5_ [s,i,t,mkS [],.sl none 0 3] 5 Q (nN 0))))))))) (d8 i 0 (cE i 1 Q [.s (.sl none 0 5),nN 1905] a (aG co_ [nL x n 5,s] a (λa c=>eG 0 c Q [.s (.sl none 0 5),nN 1902] a (eM t [] (dV b 0 Q [.s (.sl none 0 5),nN 1904] a (cp (leI 0 b&&ltI b (nI n)) x a (tN b*5) (λc=>cE c 2 Q [.s (.sl none 0 5),nN 1904] a (eG 6 (nI n) Q [.s (.sl none 0 5),nN 1910] a (bf 0 b (bg_.l17 k x n b s i t (mkS []) none 0 0 a Q) (eS bd_ [nL x n 5] a 5 a5_ [s,i,t,mkS [],.sl none 0 3] 5 Q (nN 0))))))) (eG 6 (nI n) Q [.s (.sl none 0 5),nN 1910] a (bf 0 b (bg_.l17 k x n b s i t (mkS []) none 0 0 a Q) (eS bd_ [nL x n 5] a 5 a5_ [s,i,t,mkS [],.sl none 0 3] 5 Q (nN 0)))))))) (aG co_ [nL x n 5,s] a (λa c=>eG 0 c Q [.s (.sl none 0 5),nN 1902] a (eM t [] (dV b 0 Q [.s (.sl none 0 5),nN 1904] a (cp (leI 0 b&&ltI b (nI n)) x a (tN b*5) (λc=>cE c 2 Q [.s (.sl none 0 5),nN 1904] a (eG 6 (nI n) Q [.s (.sl none 0 5),nN 1910] a (bf 0 b (bg_.l17 k x n b s i t (mkS []) none 0 0 a Q) (eS bd_ [nL x n 5] a 5 a5_ [s,i,t,mkS [],.sl none 0 3] 5 Q (nN 0))))))) (eG 6 (nI n) Q [.s (.sl none 0 5),nN 1910] a (bf 0 b (bg_.l17 k x n b s i t (mkS []) none 0 0 a Q) (eS bd_ [nL x n 5] a 5 a5_ [s,i,t,mkS [],.sl none 0 3] 5 Q (nN 0)))))))):=zz
theorem bg_.l17_eq:bg_.l17 (k+1) x n i s j t r y m h H Q=aB (leI 0 i&&ltI i (nI n)) x λa b=>aX H a (b+tN i*5+4) 3 h (cZ (leI 0 i&&ltI i (nI n)) x H (tN i*5) 3 0 h h (λa b=>dD H a (b+tN h*3) H a (b+tN h*3+1) λc d=>aD H a (b+tN h*3+1+1) λ_=>dN H 108 3 40 y m [c,d,false] λa b c=>bg_.l17 k x n i s j t r a b (ae_ .i64 (h+1)) c Q)) (eS bd_ [nL x n 5] H 5 a5_ [s,j,t,r,.sl y m 3] 5 Q (nN 0)):=zz
def t7_:an_ prog 37 (bg_):=sO (eZ kT_ func95 (eZ e5_ func29 (eZ c5_ func51 (eZ iG_ func69 (eZ pC_ func96 eN))))) nO func37
def aI_.cx:Cx:=⟨tys,[],[(2,[0,3]),(6,[0,3,4,5])],[],[(75,bb_)],av_,[.tmp 2]⟩
def aI_:=fF aI_.cx f121
def aI_.l2 k a b:=aS_ (aI_.cx) f121 2 k (gP a::.bad::.bad::gI b::B 35 [])
def aI_.l6 k a b c d:=aS_ (aI_.cx) f121 6 k (gP a::.bad::.bad::gI b::gB c::gI d::B 33 [])
theorem nk_:ar_ aI_.cx f121 (k+1) [x] H Q=aI_.l2 k x 1 H Q:=zz
theorem aI_.l2_eq:aI_.l2 (k+1) x i H Q=bf i 255 (aG bb_ [x,i] H (λa b=>aI_.l6 k x i (leI 0 b) 0 a Q)) (Q (nN 0) H):=zz
theorem aI_.l6_eq:aI_.l6 (k+1) x i b j H Q=cD x H 4 j (cq_ b (aI_.l6 k x i true (ae_ .i64 (j+1)) H Q) (dl x H 4 0 j j (λa b=>aq H a (b+tN j*4+0) λa=>aI_.l6 k x i (eqI a i) (ae_ .i64 (j+1)) H Q))) (aC b (Q i H) (aI_.l2 k x (ae_ .i64 (i+1)) H Q)):=zz
def m4_:an_ prog 121 (aI_):=sO (eZ ha_ func75 eN) nO func121
def d0_.cx:Cx:=⟨tys,[],[],[],[],av_,[.tmp 2]⟩
def d0_:=fF d0_.cx f165
theorem pr_:ar_ d0_.cx f165 (k+1) [x] H Q=bw x H 5 λ_ a=>eK x H 4 λ_ b=>cJ x H 3 λ_ c=>Q (ae_ .i64 (ae_ .i64 (nI a+nI b)+nI c)) H:=zz
def pg_:an_ prog 165 (d0_):=sO eN nO func165
def be_.cx:Cx:=⟨tys,[],[(2,[0,3])],[],[(75,bb_)],av_,[.tmp 2]⟩
def be_:=fF be_.cx f147
def be_.l2 k a b:=aS_ (be_.cx) f147 2 k (gP a::.bad::.bad::gI b::B 21 [])
theorem na_:ar_ be_.cx f147 (k+1) [x] H Q=be_.l2 k x 0 H Q:=zz
theorem be_.l2_eq:be_.l2 (k+1) x i H Q=cD x H 4 i (dl x H 4 0 i i (λa b=>aq H a (b+tN i*4+0) λa=>aG bb_ [x,a] H λa b=>aw b 0 (Q i a) (be_.l2 k x (ae_ .i64 (i+1)) a Q))) (eF Q .i64 (-1) H):=zz
def nf_:an_ prog 147 (be_):=sO (eZ ha_ func75 eN) nO func147
def aG_.cx:Cx:=⟨tys,[],[(3,[0,1,4,5,6]),(11,[0,7,8])],[],[(55,aO_)],av_,[]⟩
def aG_:=fF aG_.cx f123
def aG_.l3 k a b c d e f:=aS_ (aG_.cx) f123 3 k (gP a::gI b::.bad::.bad::gI c::nL d e 4::gI f::B 84 [])
def aG_.l11 k a b c d:=aS_ (aG_.cx) f123 11 k (gP a::B 6 (nL b c 3::gI d::B 82 []))
theorem pt_:ar_ aG_.cx f123 (k+1) [x,i] H Q=dl x H 4 0 i i λa b=>aq H a (b+tN i*4+2) λa=>aG aO_ [x,a] H λa b=>aG_.l3 k x i b none 0 0 a Q:=zz
theorem aG_.l3_eq:aG_.l3 (k+1) x i j y n h H Q=cD x H 4 h (d8 h i (dl x H 4 0 h h (λa b=>aq H a (b+tN h*4) λc=>ah H a (b+tN h*4+1) λd=>aq H a (b+tN h*4+1+1) λe=>aD H a (b+tN h*4+1+1+1) λa=>dN H 87 4 40 y n [c,d,e,a] λa b c=>aG_.l3 k x i j a b (ae_ .i64 (h+1)) c Q)) (aG_.l3 k x i j y n (ae_ .i64 (h+1)) H Q)) (bZ x H (.sl y n 4) (λa=>cJ x a 3 λb c=>cN (leI 0 j&&ltI j (nI c)) b a (tN j*3) λd=>aB (leI 0 j&&ltI j (nI c)) b λb c=>wr a b (c+tN j*3+1+0) (ae_ .i64 (d-1)) λa=>aG_.l11 k x none 0 0 a Q)):=zz
theorem aG_.l11_eq:aG_.l11 (k+1) x y n i H Q=fj x H 3 i (ff x H 3 0 i i (λa b=>aq H a (b+tN i*3+1+0) λa=>aw 0 a (ff x H 3 0 i i (λa b=>aq H a (b+tN i*3) λc=>aq H a (b+tN i*3+1) λd=>ah H a (b+tN i*3+1+1) λa=>dN H 65 3 32 y n [c,d,a] λa b c=>aG_.l11 k x a b (ae_ .i64 (i+1)) c Q)) (aG_.l11 k x y n (ae_ .i64 (i+1)) H Q))) (pS x (λa b=>fd H a (b+2) y n 3 Q [])):=zz
def js_:an_ prog 123 (aG_):=sO (eZ dA_ func55 eN) nO func123
def bK_.cx:Cx:=⟨tys,[],[(0,[0])],[],[(147,be_),(123,aG_)],av_,[]⟩
def bK_:=fF bK_.cx f166
def bK_.l0 k a:=aS_ (bK_.cx) f166 0 k (gP a::B 8 [])
theorem bK_.l0_eq:bK_.l0 (k+1) x H Q=aG be_ [x] H λa b=>bf 0 b (aG be_ [x] a (λa b=>cl aG_ [x,b] a λ_ a=>bK_.l0 k x a Q)) (ax Q [] a):=zz
def oH_:an_ prog 166 (bK_):=sO (eZ nf_ func147 (eZ js_ func123 eN)) nO func166
def fu_.cx:Cx:=⟨tys,[],[],[],[(51,bf_)],av_,[.tmp 2,.tmp 3]⟩
def fu_:=fF fu_.cx f208
theorem su_:ar_ fu_.cx f208 (k+1) [s] H Q=aL bf_ [s] H Q [mkS [],nN 1600] λa=>di (mkS [115]) s Q (nN 0) a:=zz
def t4_:an_ prog 208 (fu_):=sO (eZ c5_ func51 eN) nO func208
def fs_.cx:Cx:=⟨tys,[17],[],[],[(168,d7_)],av_,[.tmp 2,.tmp 3]⟩
def fs_:=fF fs_.cx f209
theorem ta_:ar_ fs_.cx f209 (k+1) [.agg [i,j,s,t]] H Q=db d7_ [.agg [i,j,s,t]] H Q [mkS [],nN 1700] (.row true 5 [.int .u8 (ae_ .u8 i),.int .u8 (ae_ .u8 j),.int .u8 (ae_ .u8 (sz s))]) 3 λa b=>Iv_ b s λb=>di b t Q (nN 0) (pu a (.row true 5 [.int .u8 (ae_ .u8 i),.int .u8 (ae_ .u8 j),.int .u8 (ae_ .u8 (sz s))])):=zz
def tj_:an_ prog 209 (fs_):=sO (eZ lH_ func168 eN) nO func209
def dO_.cx:Cx:=⟨tys,[],[(3,[0,1,6,7])],[],[],av_,[.tmp 4,.tmp 5]⟩
def dO_:=fF dO_.cx f99
def dO_.l3 k a b c d e:=aS_ (dO_.cx) f99 3 k (nL a b 1::gS c::B 4 (gI d::gI e::B 27 []))
theorem AP_:ar_ dO_.cx f99 (k+1) [nL x n 1,s] H Q=dO_.l3 k x n s 0 0 H Q:=zz
theorem dO_.l3_eq:dO_.l3 (k+1) x n s i j H Q=bV j n (e8 (leI 0 j&&ltI j (nI n)) x H (tN j*1) s (dO_.l3 k x n s (ae_ .i64 (i+1)) (ae_ .i64 (j+1)) H Q) (dO_.l3 k x n s i (ae_ .i64 (j+1)) H Q)) (bV i n (aJ (leI 0 i&&ltI i (nI n)) x H (tN i*1) (λa=>ax Q [i,.s (.bool (er_ a s))] H)) (ax Q [i,false] H)):=zz
def zS_:an_ prog 99 (dO_):=sO eN nO func99
def gQ_.cx:Cx:=⟨tys,[],[],[],[],av_,[.tmp 2]⟩
def gQ_:=fF gQ_.cx f149
theorem yp_:ar_ gQ_.cx f149 (k+1) [nL x n 1] H Q=aP (cO H x (n*1) H 9 1 16 n (λa=>dZ Q (some (ln H,0)) n 1 a)):=zz
def yK_:an_ prog 149 (gQ_):=sO eN nO func149
def iD_.cx:Cx:=⟨tys,[],[],[],[],av_,[.tmp 2]⟩
def iD_:=fF iD_.cx f150
theorem Aq_:ar_ iD_.cx f150 (k+1) [nL x n 1] H Q=aP (cO H x (n*1) H 3 1 8 n (λa=>dZ Q (some (ln H,0)) n 1 a)):=zz
def z4_:an_ prog 150 (iD_):=sO eN nO func150
def cj_.cx:Cx:=⟨tys,[],[(3,[1,2,3,4])],[],[(149,gQ_),(150,iD_)],av_,[.cell 2 24]⟩
def cj_:=fF cj_.cx f100
def cj_.l3 k a b c d e f g:=aS_ (cj_.cx) f100 3 k (.bad::.bx [.sl a b 5]::.bx [.sl c d 5]::.bx [.sl e f 5]::gI g::B 32 [])
theorem tn_:ar_ cj_.cx f100 (k+1) [.agg [.sl x n 5]] H Q=cj_.l3 k x n none 0 none 0 0 H Q:=zz
theorem cj_.l3_eq:cj_.l3 (k+1) x n y m z l i H Q=bV i n (dK (leI 0 i&&ltI i (nI n)) x H (tN i*5) H H 1 H 1 H 1 (λa b c d e f g h=>aE gQ_ [nL c d 1] H 1 λc d j=>aE gQ_ [nL e f 1] c 1 λc e f=>aE iD_ [nL g h 1] c 1 λc g h=>dN c 100 5 80 z l [a,b,.sl d j 1,.sl e f 1,.sl g h 1] λa b c=>cj_.l3 k x n y m a b (ae_ .i64 (i+1)) c Q)) (en Q [.sl z l 5] H):=zz
def ss_:an_ prog 100 (cj_):=sO (eZ yK_ func149 (eZ z4_ func150 eN)) nO func100
def c1_.cx:Cx:=⟨tys,[],[(4,[0,5,6,7]),(2000000,[6])],[],[],av_,[.tmp 4]⟩
def c1_:=fF c1_.cx f152
def c1_.l4 k a b c d e:=aS_ (c1_.cx) f152 4 k (gI a::B 4 (gI b::nL c d 1::gI e::B 28 []))
theorem yI_:ar_ c1_.cx f152 (k+1) [i,j] H Q=chk (!(eqI j 0)) (c1_.l4 k i (mxI 1 (ae_ .i64 (Int.tdiv (ae_ .i64 (ae_ .i64 (i+j)-1)) j))) none 0 0 H Q):=zz
theorem c1_.l4_eq:c1_.l4 (k+1) i j x n h H Q=aw h j (ae (!(eqI j 0)) (!(eqI j 0)) (dN H 3 1 8 x n [ae_ .i64 (ae_ .i64 (Int.tdiv (ae_ .i64 (i*ae_ .i64 (h+1))) j)-ae_ .i64 (Int.tdiv (ae_ .i64 (i*h)) j))] (λa b c=>c1_.l4 k i j a b (ae_ .i64 (h+1)) c Q))) (dZ Q x n 1 H):=zz
def pW_:an_ prog 152 (c1_):=sO eN nO func152
def a7_.cx:Cx:=⟨tys,[],[(5,[0,2,3,4,5,6]),(9,[0,2,3,4,5,6,7,8])],[(16,[0,2,3,4,5,6,7,9])],[(152,c1_)],av_,[.cell 2 198]⟩
def a7_:=fF a7_.cx f151
def a7_.l5 k a b c d e f g h i j l m n o:=aS_ (a7_.cx) f151 5 k (nL a b 2::.bad::.bx [.sl c d 5,.sl e f 1]::.bx [.sl g h 5,.sl i j 1]::nL l m 1::gI n::gI o::B 73 [])
def a7_.l9 k a b c d e f g h i j l m n o p q r s t u v w x:=aS_ (a7_.cx) f151 9 k (nL a b 2::.bad::.bx [.sl c d 5,.sl e f 1]::.bx [.sl g h 5,.sl i j 1]::nL l m 1::gI n::gI o::.bx [.bool p,.bool q,.sl r s 1,.sl t u 1,.sl v w 1]::gI x::B 71 [])
def a7_.l16 k a b c d e f g h i j l m n o p q r s t u v w x:=aS_ (a7_.cx) f151 16 k (nL a b 2::.bad::.bx [.sl c d 5,.sl e f 1]::.bx [.sl g h 5,.sl i j 1]::nL l m 1::gI n::gI o::.bx [.bool p,.bool q,.sl r s 1,.sl t u 1,.sl v w 1]::.bad::gS x::B 70 [])
theorem wn_:ar_ a7_.cx f151 (k+1) [nL x n 2] H Q=aE c1_ [nI n,nN 4] H 1 λa b c=>a7_.l5 k x n none 0 none 0 none 0 none 0 b c 0 0 a Q:=zz
theorem a7_.l5_eq:a7_.l5 (k+1) x n y m z l u o w N X M i j H Q=bV j M (a7_.l9 k x n y m z l u o w N X M i j true true none 0 none 0 none 0 i H Q) (en Q [.sl u o 5,.sl w N 1] H):=zz
theorem a7_.l9_eq:a7_.l9 (k+1) x n y m z l u o w N X M i j b c Y L Z O U D h H Q=aM (leI 0 j&&ltI j (nI M)) X H (tN j*1) λa=>aw h (ae_ .i64 (i+a)) (bq (leI 0 h&&ltI h (nI n)) x H (tN h*2) (λa=>dN H 9 1 16 Y L [a] λa d e=>d7 (leI 0 h&&ltI h (nI n)) x e (tN h*2) λf=>dN e 9 1 16 Z O [f] λe f g=>a7_.l9 k x n y m z l u o w N X M i j b c a d e f U D (ae_ .i64 (h+1)) g Q)) (aM (leI 0 j&&ltI j (nI M)) X H (tN j*1) (λa=>aw 0 a (bq (leI 0 i&&ltI i (nI n)) x H (tN i*2) (λa=>a7_.l16 k x n y m z l u o w N X M i j b c Y L Z O U D a H Q)) (a7_.l16 k x n y m z l u o w N X M i j b c Y L Z O U D (mkS []) H Q))):=zz
theorem a7_.l16_eq:a7_.l16 (k+1) x n y m z l u o w N X M i j b c Y L Z O U D s H Q=dN H 100 5 80 u o [b,c,.sl Y L 1,.sl Z O 1,.sl U D 1] λa b c=>dN c 9 1 16 w N [s] λc d e=>aM (leI 0 j&&ltI j (nI M)) X e (tN j*1) λf=>a7_.l5 k x n y m z l a b c d X M (ae_ .i64 (i+f)) (ae_ .i64 (j+1)) e Q:=zz
def wx_:an_ prog 151 (a7_):=sO (eZ pW_ func152 eN) nO func151
def ba_.cx:Cx:=⟨tys,[],[(4,[2,3,4,5]),(9,[2,3,4,5,6,7,8,9]),(13,[2,3,4,5,6,7,8,9,10,11])],[],[(44,gK_),(151,a7_),(152,c1_)],av_,[.cell 2 24]⟩
def ba_:=fF ba_.cx f102
def ba_.l4 k a b c d e f g h i:=aS_ (ba_.cx) f102 4 k (.bad::.bad::.bx [.sl a b 5]::.bx [.sl c d 5]::.bx [.sl e f 5,.sl g h 1]::gI i::B 96 [])
def ba_.l9 k a b c d e f g h i j l m n o p q r:=aS_ (ba_.cx) f102 9 k (.bad::.bad::.bx [.sl a b 5]::.bx [.sl c d 5]::.bx [.sl e f 5,.sl g h 1]::gI i::.bx [.sl j l 5,.sl m n 1]::nL o p 1::gI q::gI r::B 92 [])
def ba_.l13 k a b c d e f g h i j l m n o p q r s t u v w x y z A:=aS_ (ba_.cx) f102 13 k (.bad::.bad::.bx [.sl a b 5]::.bx [.sl c d 5]::.bx [.sl e f 5,.sl g h 1]::gI i::.bx [.sl j l 5,.sl m n 1]::nL o p 1::gI q::gI r::.bx [.bool s,.bool t,.sl u v 1,.sl w x 1,.sl y z 1]::gI A::B 90 [])
theorem yb_:ar_ ba_.cx f102 (k+1) [nL x n 2] H Q=bQ gK_ [] H 5 λa b c=>bh a7_ [nL x n 2] a λa d=>cd d 5 1 λd e f g=>ba_.l4 k none 0 b c d e f g 1 a Q:=zz
theorem ba_.l4_eq:ba_.l4 (k+1) x n y m z l u o i H Q=bV 1 l (aE c1_ [nI l,nN 5] H 1 (λa b c=>ba_.l9 k x n y m z l u o i none 0 none 0 b c 0 0 a Q)) (cL (leI 0 0&&ltI 0 (nI l)) z H (tN 0*5) H (tN 0*5) H (tN 0*5) 1 H (tN 0*5) 1 H (tN 0*5) 1 (leI 0 0&&ltI 0 (nI m)) y H (tN 0*5) (tN 0*5) (tN 0*5) (tN 0*5) (tN 0*5) (λa=>en Q [.sl y m 5] a)):=zz
theorem ba_.l9_eq:ba_.l9 (k+1) x n y m z l u o i w N X M Y L j h H Q=bV h L (ba_.l13 k x n y m z l u o i w N X M Y L j h true false none 0 none 0 none 0 j H Q) (ba_.l4 k x n y m w N X M i H Q):=zz
theorem ba_.l13_eq:ba_.l13 (k+1) x n y m z l u o i w N X M Y L j h b c Z O U D x1 n1 g H Q=aM (leI 0 h&&ltI h (nI L)) Y H (tN h*1) λa=>aw g (ae_ .i64 (j+a)) (cL (leI 0 g&&ltI g (nI l)) z H (tN g*5) H (tN g*5) H (tN g*5) 1 H (tN g*5) 1 H (tN g*5) 1 (leI 0 i&&ltI i (nI m)) y H (tN i*5) (tN i*5) (tN i*5) (tN i*5) (tN i*5) (λa=>dN a 3 1 8 x1 n1 [i] λa d e=>aw j g (aJ (leI 0 g&&ltI g (nI o)) u e (tN g*1) (λf=>dN e 9 1 16 Z O [f] λe f p=>ba_.l13 k x n y m z l u o (ae_ .i64 (i+1)) w N X M Y L j h b c e f U D a d (ae_ .i64 (g+1)) p Q)) (ba_.l13 k x n y m z l u o (ae_ .i64 (i+1)) w N X M Y L j h b c Z O U D a d (ae_ .i64 (g+1)) e Q))) (dN H 100 5 80 w N [b,c,.sl Z O 1,.sl U D 1,.sl x1 n1 1] (λa b c=>aJ (leI 0 j&&ltI j (nI o)) u c (tN j*1) λd=>dN c 9 1 16 X M [d] λc d e=>aM (leI 0 h&&ltI h (nI L)) Y e (tN h*1) λf=>ba_.l9 k x n y m z l u o i a b c d Y L (ae_ .i64 (j+f)) (ae_ .i64 (h+1)) e Q)):=zz
def yB_:an_ prog 102 (ba_):=sO (eZ nQ_ func44 (eZ wx_ func151 (eZ pW_ func152 eN))) nO func102
def bm_.cx:Cx:=⟨tys,[],[(4,[1,2,3,6,8]),(15,[1,2,6,12,13])],[],[(98,f1_),(99,dO_),(100,cj_),(101,bt_),(102,ba_)],av_,[.cell 6 24,.tmp 7]⟩
def bm_:=fF bm_.cx f43
def bm_.l4 k a b c d e f g:=aS_ (bm_.cx) f43 4 k (.bad::gS a::gS b::.bx [.sl c d 5]::.bad::.bad::.bx [.sl e f 5]::.bad::gI g::B 103 [])
def bm_.l15 k a b c d e f g:=aS_ (bm_.cx) f43 15 k (.bad::gS a::gS b::B 3 (.bx [.sl c d 5]::B 5 (nL e f 2::gI g::B 98 [])))
theorem xd_:ar_ bm_.cx f43 (k+1) [.agg [.sl x n 5],s,t] H Q=aL f1_ [.agg [.sl x n 5]] H Q [.a [.sl none 0 5],nN 1200] λa=>dV (sz s) 1 Q [.a [.sl none 0 5],nN 1200] a (dV 6 (sz s) Q [.a [.sl none 0 5],nN 1200] a (dV 10 (sz t) Q [.a [.sl none 0 5],nN 1200] a (bm_.l4 k s t x n none 0 0 a Q))):=zz
theorem bm_.l4_eq:bm_.l4 (k+1) s t x n y m i H Q=bV i n (aB (leI 0 i&&ltI i (nI n)) x (λa b=>eu H a (b+tN i*5+2) λa b=>cw dO_ [nL a b 1,s] H λa b c=>aB (leI 0 i&&ltI i (nI n)) x λd e=>dj a d (e+tN i*5+1) (cq_ c (bQ cj_ [.agg [.sl x n 5]] a 5 (λa c d=>aB (leI 0 i&&ltI i (nI d)) c λe f=>cT a e (f+tN i*5+3) 1 0 b b λe f=>bp a e (f+tN b*1) t Q [.a [.sl c d 5],nN 0])) (bm_.l4 k s t x n y m (ae_ .i64 (i+1)) a Q)) (bm_.l4 k s t x n y m (ae_ .i64 (i+1)) a Q))) (aE bt_ [.agg [.sl x n 5],nN 0,nL none 0 2] H 2 (λa b c=>eG 60 (nI c) Q [.a [.sl none 0 5],nN 1201] a (bm_.l15 k s t y m b c 0 a Q))):=zz
theorem bm_.l15_eq:bm_.l15 (k+1) s t x n y m i H Q=bV i m (bq (leI 0 i&&ltI i (nI m)) y H (tN i*2) (λa=>cq_ (dQ_ a s) (bm_.l15 k s t x n y m (ae_ .i64 (i+1)) H Q) (cz 0 i (fq (leN 0 (tN i)&&(leN (tN i) m||kz_ H y (tN i*2))) (dg H (shf y 0) ((tN i-0)*2) H 131 2 32 none 0 (tN i-0) (λa b c=>dN c 131 2 32 a b [s,t] λa b c=>cz 0 i (fq (leN (tN i) m) (dg c (shf y (tN i*2)) ((m-tN i)*2) c 131 2 32 a b (m-tN i) (λa b c=>bT ba_ [nL a b 2] c 5 Q (nN 0)))))))))) (cz 0 i (fq (leN 0 (tN i)&&(leN (tN i) m||kz_ H y (tN i*2))) (dg H (shf y 0) ((tN i-0)*2) H 131 2 32 none 0 (tN i-0) (λa b c=>dN c 131 2 32 a b [s,t] λa b c=>cz 0 i (fq (leN (tN i) m) (dg c (shf y (tN i*2)) ((m-tN i)*2) c 131 2 32 a b (m-tN i) (λa b c=>bT ba_ [nL a b 2] c 5 Q (nN 0)))))))):=zz
def w4_:an_ prog 43 (bm_):=sO (eZ pJ_ func98 (eZ zS_ func99 (eZ ss_ func100 (eZ uo_ func101 (eZ yB_ func102 eN))))) nO func43
def fz_.cx:Cx:=⟨tys,[16],[],[],[(213,dB_),(53,bW_)],av_,[.tmp 4,.tmp 5]⟩
def fz_:=fF fz_.cx f210
theorem tC_:ar_ fz_.cx f210 (k+1) [i,s] H Q=aL dB_ [i] H Q [mkS [],nN 1600] λa=>dR bW_ [s] a Q [mkS [],nN 1600] (.row true 5 [.int .u8 102,.int .u8 (ae_ .u8 i)]) 2 s Q (nN 0):=zz
def sV_:an_ prog 210 (fz_):=sO (eZ h5_ func213 (eZ eM_ func53 eN)) nO func210
def e1_.cx:Cx:=⟨tys,[9],[],[],[(213,dB_)],av_,[.tmp 2,.tmp 3]⟩
def e1_:=fF e1_.cx f211
theorem sm_:ar_ e1_.cx f211 (k+1) [i] H Q=db dB_ [i] H Q [mkS [],nN 1600] (.row true 5 [.int .u8 105,.int .u8 (ae_ .u8 i)]) 2 λa b=>ax Q [b,nN 0] (pu a (.row true 5 [.int .u8 105,.int .u8 (ae_ .u8 i)])):=zz
def rT_:an_ prog 211 (e1_):=sO (eZ h5_ func213 eN) nO func211
def e3_.cx:Cx:=⟨tys,[10],[],[],[(169,dL_)],av_,[.tmp 2,.tmp 3]⟩
def e3_:=fF e3_.cx f212
theorem rz_:ar_ e3_.cx f212 (k+1) [.agg [i,s]] H Q=dR dL_ [.agg [i,s]] H Q [mkS [],nN 1800] (.row true 5 [.int .u8 (ae_ .u8 i)]) 1 s Q (nN 0):=zz
def rP_:an_ prog 212 (e3_):=sO (eZ kZ_ func169 eN) nO func212
def as_.cx:Cx:=⟨tys,[93],[(3,[0,2,3,4]),(9,[0,2,3,9]),(18,[0,2,3,14])],[(16,[0,2,3,9,10,11,13])],[(44,gK_),(208,fu_),(209,fs_),(43,bm_),(210,fz_),(211,e1_),(212,e3_)],av_,[.cell 2 24]⟩
def as_:=fF as_.cx f167
def as_.l3 k a b c d e f:=aS_ (as_.cx) f167 3 k (gP a::.bad::.bx [.sl b c 5]::.bx [.sl d e 5]::gI f::B 134 [])
def as_.l9 k a b c d e f:=aS_ (as_.cx) f167 9 k (gP a::.bad::.bx [.sl b c 5]::.bx [.sl d e 5]::B 5 (gI f::B 129 []))
def as_.l16 k a b c d e f g h i j l m:=aS_ (as_.cx) f167 16 k (gP a::.bad::.bx [.sl b c 5]::.bx [.sl d e 5]::B 5 (gI f::.bx [.int .i64 g,.str h,.int .i64 i,.bool j]::gS l::.bad::.g (.int .u8 m)::B 125 []))
def as_.l18 k a b c d e f:=aS_ (as_.cx) f167 18 k (gP a::.bad::.bx [.sl b c 5]::.bx [.sl d e 5]::B 10 (gI f::B 124 []))
theorem pe_:ar_ as_.cx f167 (k+1) [x] H Q=bQ gK_ [] H 5 λa b c=>as_.l3 k x none 0 b c 0 a Q:=zz
theorem as_.l3_eq:as_.l3 (k+1) x y n z m i H Q=fh x H 5 i (cH x H 5 0 i i (λa b=>ah H a (b+tN i*5+0) λa=>dE fu_ [a] H λa b=>cH x a 5 0 i i λc d=>aq a c (d+tN i*5+1) λe=>aq a c (d+tN i*5+1+1) λf=>dD a c (d+tN i*5+1+1+1) a c (d+tN i*5+1+1+1+1) λc d=>dE fs_ [.agg [e,f,c,d]] a λa c=>dU bm_ [.agg [.sl z m 5],b,c] a 5 λa b c=>as_.l3 k x y n b c (ae_ .i64 (i+1)) a Q)) (as_.l9 k x y n z m 0 H Q):=zz
theorem as_.l9_eq:as_.l9 (k+1) x y n z m i H Q=cD x H 4 i (dl x H 4 0 i i (λa b=>aq H a (b+tN i*4) λc=>ah H a (b+tN i*4+1) λd=>aq H a (b+tN i*4+1+1) λe=>aD H a (b+tN i*4+1+1+1) λa=>dE fz_ [c,d] H λb f=>cq_ a (as_.l16 k x y n z m i c d e a f 1 b Q) (as_.l16 k x y n z m i c d e a f 0 b Q))) (as_.l18 k x y n z m 0 H Q):=zz
theorem as_.l16_eq:as_.l16 (k+1) x y n z m i j s h b t g H Q=rdN (pu H (.row true 5 [.int .u8 (ae_ .u8 h),.int .u8 g])) (some (ln H,0)) 2 λa=>txt a λa=>dU bm_ [.agg [.sl z m 5],t,a] (pu H (.row true 5 [.int .u8 (ae_ .u8 h),.int .u8 g])) 5 λa b c=>as_.l9 k x y n b c (ae_ .i64 (i+1)) a Q:=zz
theorem as_.l18_eq:as_.l18 (k+1) x y n z m i H Q=fj x H 3 i (ff x H 3 0 i i (λa b=>aq H a (b+tN i*3+0) λa=>dE e1_ [a] H λa b=>ff x a 3 0 i i λc d=>aq a c (d+tN i*3+1) λe=>ah a c (d+tN i*3+1+1) λc=>dE e3_ [.agg [e,c]] a λa c=>dU bm_ [.agg [.sl z m 5],b,c] a 5 λa b c=>as_.l18 k x y n b c (ae_ .i64 (i+1)) a Q)) (en Q [.sl z m 5] H):=zz
def pl_:an_ prog 167 (as_):=sO (eZ nQ_ func44 (eZ t4_ func208 (eZ tj_ func209 (eZ w4_ func43 (eZ sV_ func210 (eZ rT_ func211 (eZ rP_ func212 eN))))))) nO func167
def cv_.cx:Cx:=⟨tys,[],[],[],[(165,d0_),(166,bK_),(167,as_)],av_,[.cell 2 24]⟩
def cv_:=fF cv_.cx f122
theorem ph_:ar_ cv_.cx f122 (k+1) [x] H Q=aG d0_ [x] H λa b=>aw 60 b (cl bK_ [x] a (λ_ a=>bQ as_ [x] a 5 λa b c=>en Q [.sl b c 5] a)) (bQ as_ [x] a 5 (λa b c=>en Q [.sl b c 5] a)):=zz
def he_:an_ prog 122 (cv_):=sO (eZ pg_ func165 (eZ oH_ func166 (eZ pl_ func167 eN))) nO func122
def a6_.cx:Cx:=⟨tys,[],[(12,[1,2,3,8,10,14,15,16,17])],[(18,[1,2,3,8,10,14])],[(28,bM_),(66,ax_),(37,bg_),(121,aI_),(52,aQ_),(55,aO_),(122,cv_)],av_,[.cell 8 24,.tmp 9]⟩
def a6_:=fF a6_.cx f70
def a6_.l12 k a b c d e f g h i j:=aS_ (a6_.cx) f70 12 k (.bad::gS a::gS b::gI c::B 4 (.bx [.sl d e 5]::.bad::gP f::B 3 (gI g::gI h::gI i::gI j::B 106 [])))
def a6_.l18 k a b c d e f g:=aS_ (a6_.cx) f70 18 k (.bad::gS a::gS b::gI c::B 4 (.bx [.sl d e 5]::.bad::gP f::B 3 (gI g::B 109 [])))
theorem tU_:ar_ a6_.cx f70 (k+1) [.agg [.sl x n 5],s,t,i] H Q=fk bM_ [.agg [.sl x n 5]] H Q [.a [.sl none 0 5],nN 2000] λa b=>aE ax_ [b] a 5 λa c d=>bC bg_ [nL c d 5,s,t,i] a 5 λa c _ _=>bP c Q (.a [.sl none 0 5]) a (aG aI_ [b] a (λa c=>eM t [] (dz b a 5 (λd e f g=>aG aQ_ [b,t] a λa h=>bU a d (e+0) 5 (nL f g 5) (cN (leI 0 h&&ltI h (nI g)) f a (tN h*5) (λd=>eK b a 4 λ_ e=>a6_.l12 k s t i none 0 b c d (nI e) 0 a Q)))) (a6_.l18 k s t i none 0 b c a Q))):=zz
theorem a6_.l12_eq:a6_.l12 (k+1) s t i x n y j h g I H Q=aw I g (dl y H 4 0 I I (λa b=>aq H a (b+tN I*4) λc=>ah H a (b+tN I*4+1) λd=>aq H a (b+tN I*4+1+1) λe=>aD H a (b+tN I*4+1+1+1) λ_=>bj c h (eK y H 4 (λa b=>fe H 87 4 40 a b [j,d,e,false] y λa=>pS y λb c=>aa a b (c+2) 3 λd f=>aG aO_ [y,e] a λa e=>fp a b (c+2) 3 (nL d f 3) (cN (leI 0 e&&ltI e (nI f)) d a (tN e*3) (λb=>aB (leI 0 e&&ltI e (nI f)) d λc d=>wr a c (d+tN e*3+1+0) (ae_ .i64 (b+1)) λa=>a6_.l12 k s t i x n y j h g (ae_ .i64 (I+1)) a Q)))) (a6_.l12 k s t i x n y j h g (ae_ .i64 (I+1)) H Q))) (a6_.l18 k s t i x n y j H Q):=zz
theorem a6_.l18_eq:a6_.l18 (k+1) s t i x n y j H Q=bw y H 5 λa b=>dN H 83 5 64 a b [s,j,i,t,mkS []] λa b c=>pS y λd e=>dC c d (e+0) a b 5 λa=>bT cv_ [y] a 5 Q (nN 0):=zz
def sZ_:an_ prog 70 (a6_):=sO (eZ iX_ func28 (eZ ea_ func66 (eZ t7_ func37 (eZ m4_ func121 (eZ ek_ func52 (eZ dA_ func55 (eZ he_ func122 eN))))))) nO func70
def dK_.cx:Cx:=⟨tys,[],[],[],[(95,co_)],av_,[.tmp 4,.tmp 5]⟩
def dK_:=fF dK_.cx f67
theorem uR_:ar_ dK_.cx f67 (k+1) [nL x n 5,s] H Q=aG co_ [nL x n 5,s] H λa b=>dV b 0 Q [nN 0,nN 1903] a (cp (leI 0 b&&ltI b (nI n)) x a (tN b*5) (λc=>cE c 0 Q [nN 0,nN 1905] a (ax Q [b,nN 0] a))):=zz
def ji_:an_ prog 67 (dK_):=sO (eZ kT_ func95 eN) nO func67
def b7_.cx:Cx:=⟨tys,[],[(2,[0,1,5])],[],[],av_,[.tmp 4]⟩
def b7_:=fF b7_.cx f68
def b7_.l2 k a b c d:=aS_ (b7_.cx) f68 2 k (nL a b 3::gS c::B 3 (gI d::B 14 []))
theorem uN_:ar_ b7_.cx f68 (k+1) [nL x n 3,s] H Q=b7_.l2 k x n s 0 H Q:=zz
theorem b7_.l2_eq:b7_.l2 (k+1) x n s i H Q=bV i n (bq (leI 0 i&&ltI i (nI n)) x H (tN i*3) (λa=>dW a s (Q i H) (b7_.l2 k x n s (ae_ .i64 (i+1)) H Q))) (eF Q .i64 (-1) H):=zz
def mP_:an_ prog 68 (b7_):=sO eN nO func68
def aU_.cx:Cx:=⟨tys,[],[(22,[2,10,13,14,15,16])],[(26,[2,10,13,14,15,16]),(29,[10,13,15])],[(29,aW_),(51,bf_),(67,dK_),(68,b7_),(53,bW_),(69,bd_)],av_,[.tmp 8,.tmp 9]⟩
def aU_:=fF aU_.cx f23
def aU_.l22 k a b c d e f g h i j:=aS_ (aU_.cx) f23 22 k (.bad::.bad::gS a::B 7 (gI b::.bad::.bad::nL c d 5::.bx [.str e,.str f,.bool g]::nL h i 3::gI j::B 119 []))
def aU_.l26 k a b c d e f g h i j:=aS_ (aU_.cx) f23 26 k (.bad::.bad::gS a::B 7 (gI b::.bad::.bad::nL c d 5::.bx [.str e,.str f,.bool g]::nL h i 3::gI j::B 119 []))
def aU_.l29 k a b c d e:=aS_ (aU_.cx) f23 29 k (B 10 (gI a::.bad::.bad::nL b c 5::.bad::nL d e 3::B 120 []))
theorem v2_:ar_ aU_.cx f23 (k+1) [nL x n 5,s,t,r] H Q=dx aW_ [nL x n 5] H Q [.s (.sl none 0 5),nN 1900] bf_ [s] Q [.s (.sl none 0 5),nN 1901] λa=>bz dK_ [nL x n 5,s] a λa b c=>bP b Q (.s (.sl none 0 5)) a (bR (leI 0 c&&ltI c (nI n)) x a (tN c*5) 3 (λb d=>aG b7_ [nL b d 3,t] a λa b=>aL bW_ [t] a Q [.s (.sl none 0 5),nN 1907] λa=>dV 6 (sz r) Q [.s (.sl none 0 5),nN 1909] a (aw b 0 (bR (leI 0 c&&ltI c (nI n)) x a (tN c*5) 3 (λ_ d=>eG 4 (nI d) Q [.s (.sl none 0 5),nN 1910] a (aE bd_ [nL x n 5] a 5 (λa d e=>bf 0 b (cZ (leI 0 c&&ltI c (nI e)) d a (tN c*5) 3 0 b b (λc f=>aH a c (f+tN b*3) t c (f+tN b*3+1) r λa=>bp a c (f+tN b*3+1+1) true Q [.s (.sl d e 5),nN 0])) (aU_.l22 k t c d e t r true none 0 0 a Q))))) (aE bd_ [nL x n 5] a 5 (λa d e=>bf 0 b (cZ (leI 0 c&&ltI c (nI e)) d a (tN c*5) 3 0 b b (λc f=>aH a c (f+tN b*3) t c (f+tN b*3+1) r λa=>bp a c (f+tN b*3+1+1) true Q [.s (.sl d e 5),nN 0])) (aU_.l22 k t c d e t r true none 0 0 a Q)))))):=zz
theorem aU_.l22_eq:aU_.l22 (k+1) s i x n t r b y m j H Q=aB (leI 0 i&&ltI i (nI n)) x λa c=>aX H a (c+tN i*5+4) 3 j (bj (nI m) j (cZ (leI 0 i&&ltI i (nI n)) x H (tN i*5) 3 0 j j (λa c=>ah H a (c+tN j*3+0) λa=>aC (dQ_ a s||er_ a s) (dN H 108 3 40 y m [t,r,b] (λa c d=>aU_.l26 k s i x n t r b a c j d Q)) (aU_.l26 k s i x n t r b y m j H Q))) (aU_.l26 k s i x n t r b y m j H Q)) (bR (leI 0 i&&ltI i (nI n)) x H (tN i*5) 3 (λ_ a=>bj (nI m) (nI a) (dN H 108 3 40 y m [t,r,b] (λa b c=>aU_.l29 k i x n a b c Q)) (aU_.l29 k i x n y m H Q))):=zz
theorem aU_.l26_eq:aU_.l26 (k+1) s i x n t r b y m j H Q=cZ (leI 0 i&&ltI i (nI n)) x H (tN i*5) 3 0 j j λa c=>dD H a (c+tN j*3) H a (c+tN j*3+1) λd e=>aD H a (c+tN j*3+1+1) λa=>dN H 108 3 40 y m [d,e,a] λa c d=>aU_.l22 k s i x n t r b a c (ae_ .i64 (j+1)) d Q:=zz
theorem aU_.l29_eq:aU_.l29 (k+1) i x n y m H Q=aB (leI 0 i&&ltI i (nI n)) x λa b=>fd H a (b+tN i*5+4) y m 3 Q [.s (.sl x n 5),nN 0]:=zz
def n8_:an_ prog 23 (aU_):=sO (eZ e5_ func29 (eZ c5_ func51 (eZ ji_ func67 (eZ mP_ func68 (eZ eM_ func53 (eZ iG_ func69 eN)))))) nO func23
def a1_.cx:Cx:=⟨tys,[],[(2,[0,3])],[],[(55,aO_)],av_,[.tmp 2]⟩
def a1_:=fF a1_.cx f124
def a1_.l2 k a b:=aS_ (a1_.cx) f124 2 k (gP a::.bad::.bad::gI b::B 9 [])
theorem k9_:ar_ a1_.cx f124 (k+1) [x] H Q=a1_.l2 k x 1 H Q:=zz
theorem a1_.l2_eq:a1_.l2 (k+1) x i H Q=bf i 255 (aG aO_ [x,i] H (λa b=>aw b 0 (Q i a) (a1_.l2 k x (ae_ .i64 (i+1)) a Q))) (Q (nN 0) H):=zz
def k4_:an_ prog 124 (a1_):=sO (eZ dA_ func55 eN) nO func124
def cC_.cx:Cx:=⟨tys,[],[],[(10,[1,2,3,8,10])],[(28,bM_),(66,ax_),(23,aU_),(54,aT_),(123,aG_),(124,a1_),(52,aQ_),(122,cv_)],av_,[.cell 8 24,.tmp 9]⟩
def cC_:=fF cC_.cx f71
def cC_.l10 k a b c d e f:=aS_ (cC_.cx) f71 10 k (.bad::gS a::gS b::gS c::B 4 (.bx [.sl d e 5]::.bad::gP f::B 75 []))
theorem wV_:ar_ cC_.cx f71 (k+1) [.agg [.sl x n 5],s,t,r] H Q=fk bM_ [.agg [.sl x n 5]] H Q [.a [.sl none 0 5],nN 2000] λa b=>aE ax_ [b] a 5 λa c d=>bC aU_ [nL c d 5,s,t,r] a 5 λa c _ _=>bP c Q (.a [.sl none 0 5]) a (aG aT_ [b,s,t] a (λa c=>bf 0 c (cl aG_ [b,c] a (λ_ a=>cC_.l10 k s t r none 0 b a Q)) (cC_.l10 k s t r none 0 b a Q))):=zz
theorem cC_.l10_eq:cC_.l10 (k+1) s t r x n y H Q=aG a1_ [y] H λa b=>cJ y a 3 λc d=>dN a 65 3 32 c d [b,nN 1,r] λa c d=>pS y λe f=>dC d e (f+2) a c 3 λa=>pS y λc d=>aa a c (d+1) 4 λe f=>dz y a 5 λg h i j=>aG aQ_ [y,s] a λa l=>bU a g (h+0) 5 (nL i j 5) (aa a c (d+1) 4 (λc d=>eqv (nL e f 4) (nL c d 4) (cN (leI 0 l&&ltI l (nI j)) i a (tN l*5) (λc=>fe a 87 4 40 e f [c,t,b,true] y λa=>bT cv_ [y] a 5 Q (nN 0))))):=zz
def xj_:an_ prog 71 (cC_):=sO (eZ iX_ func28 (eZ ea_ func66 (eZ n8_ func23 (eZ ii_ func54 (eZ js_ func123 (eZ k4_ func124 (eZ ek_ func52 (eZ he_ func122 eN)))))))) nO func71
def bY_.cx:Cx:=⟨tys,[],[(3,[0,1,5,6])],[],[],av_,[.tmp 4]⟩
def bY_:=fF bY_.cx f97
def bY_.l3 k a b c d e f:=aS_ (bY_.cx) f97 3 k (nL a b 5::gI c::B 3 (nL d e 5::gI f::B 17 []))
theorem ty_:ar_ bY_.cx f97 (k+1) [nL x n 5,i] H Q=bY_.l3 k x n i none 0 0 H Q:=zz
theorem bY_.l3_eq:bY_.l3 (k+1) x n i y m j H Q=bV j n (d8 j i (cS (leI 0 j&&ltI j (nI n)) x H (tN j*5) H H H H 3 (λa b c d e f=>dN H 52 5 80 y m [a,b,c,d,.sl e f 3] λa b c=>bY_.l3 k x n i a b (ae_ .i64 (j+1)) c Q)) (bY_.l3 k x n i y m (ae_ .i64 (j+1)) H Q)) (dZ Q y m 5 H):=zz
def sW_:an_ prog 97 (bY_):=sO eN nO func97
def f5_.cx:Cx:=⟨tys,[],[],[],[(29,aW_),(51,bf_),(67,dK_),(95,co_),(69,bd_),(97,bY_),(96,a5_)],av_,[.tmp 6,.tmp 7]⟩
def f5_:=fF f5_.cx f38
theorem u2_:ar_ f5_.cx f38 (k+1) [nL x n 5,s,t] H Q=dx aW_ [nL x n 5] H Q [.s (.sl none 0 5),nN 1900] bf_ [s] Q [.s (.sl none 0 5),nN 1901] λa=>aL bf_ [t] a Q [.s (.sl none 0 5),nN 1901] λa=>bz dK_ [nL x n 5,s] a λa b c=>bP b Q (.s (.sl none 0 5)) a (aG co_ [nL x n 5,t] a (λa b=>eG 0 b Q [.s (.sl none 0 5),nN 1902] a (aE bd_ [nL x n 5] a 5 (λa b d=>bn (leI 0 c&&ltI c (nI d)) b a (tN c*5) λe f _=>aq a e (f+tN c*5+1) λ_=>dD a e (f+tN c*5+1+1) a e (f+tN c*5+1+1+1) λg h=>aa a e (f+tN c*5+1+1+1+1) 3 λe f=>eS bY_ [nL b d 5,c] a 5 a5_ [t,nN 2,g,h,.sl e f 3] 5 Q (nN 0))))):=zz
def u6_:an_ prog 38 (f5_):=sO (eZ e5_ func29 (eZ c5_ func51 (eZ ji_ func67 (eZ kT_ func95 (eZ iG_ func69 (eZ sW_ func97 (eZ pC_ func96 eN))))))) nO func38
def fl_.cx:Cx:=⟨tys,[],[],[],[(28,bM_),(66,ax_),(38,f5_),(52,aQ_),(122,cv_)],av_,[.cell 6 24,.tmp 7]⟩
def fl_:=fF fl_.cx f72
theorem uJ_:ar_ fl_.cx f72 (k+1) [.agg [.sl x n 5],s,t] H Q=fk bM_ [.agg [.sl x n 5]] H Q [.a [.sl none 0 5],nN 2000] λa b=>aE ax_ [b] a 5 λa c d=>bC f5_ [nL c d 5,s,t] a 5 λa c _ _=>bP c Q (.a [.sl none 0 5]) a (aG aQ_ [b,s] a (λa c=>cH b a 5 0 c c λd e=>wr a d (e+tN c*5+0) t λa=>cH b a 5 0 c c λd e=>wr a d (e+tN c*5+1+1) (nN 2) λa=>bT cv_ [b] a 5 Q (nN 0))):=zz
def uU_:an_ prog 72 (fl_):=sO (eZ iX_ func28 (eZ ea_ func66 (eZ u6_ func38 (eZ ek_ func52 (eZ he_ func122 eN))))) nO func72
def f3_.cx:Cx:=⟨tys,[],[],[],[(44,gK_),(70,a6_),(71,cC_),(72,fl_)],av_,[.cell 0 24]⟩
def f3_:=fF f3_.cx f26
theorem vj_:ar_ f3_.cx f26 (k+1) [] H Q=bQ gK_ [] H 5 λa b c=>eI a6_ [.agg [.sl b c 5],mkS [119],mkS [],nN 0] a 5 cC_ (mkS [119]) (mkS [97]) (mkS [111,110,101]) 5 λa b c=>eI fl_ [.agg [.sl b c 5],mkS [119],mkS [98,97,115,101]] a 5 a6_ (mkS [119,111,114,107]) (mkS [98,97,115,101]) (nN 0) 5 λa b c=>dU cC_ [.agg [.sl b c 5],mkS [119,111,114,107],mkS [98],mkS [116,119,111]] a 5 λa b c=>en Q [.sl b c 5] a:=zz
def vh_:an_ prog 26 (f3_):=sO (eZ nQ_ func44 (eZ sZ_ func70 (eZ xj_ func71 (eZ uU_ func72 eN)))) nO func26
end Go.Am
namespace Go.Am
open List
open Go.Proofs.Tryz
variable{E:Nat->Sm}{k:Nat}{H:Hp}{Q:Post}{U X Y Z u w x x1 y z:Pl}{D L M N O l m n n1 o:Nat}{I g h i j:Int}{C b b1 b2 c d:Bool}{R S e r s t:ByteArray}{A a:Option Nat}{p q:List (Nat×Nat)}{F:Sm}
def fW_.cx E:=(⟨tys,[],[],[],[(26,f3_),(15,(e4_ E)),(17,ds_),(21,dz_),(18,dh_),(19,eb_)],E,[.tmp 0]⟩:Cx)
def fW_ E:=fF (fW_.cx E) f22
theorem w3_:ar_ (fW_.cx E) f22 (k+1) [] H Q=bQ f3_ [] H 5 λa b c=>bJ (e4_ E) [.agg [.sl b c 5],mkS [119,111,114,107],mkS [97]] a λa d e=>aZ d λd=>fg ds_ [.agg [.sl b c 5],mkS [119,111,114,107],mkS [97],mkS [115,105,120]] a 5 λa f g h=>bC dz_ [.agg [.sl f g 5]] a 5 λa f g i=>bc f (fg dh_ [.agg [.sl b c 5],mkS [119,111,114,107],mkS [98]] a 5 (λa f j l=>bC dz_ [.agg [.sl f j 5]] a 5 λa f j m=>bc f (bk ds_ [.agg [.sl b c 5],mkS [98,97,115,101],mkS [97],mkS []] a (λa f n=>aA n 5 λn _ _=>uN n (aZ f (λf=>bJ (e4_ E) [.agg [.sl b c 5],mkS [98,97,115,101],mkS [122]] a λa b _=>aZ b λb=>bJ (e4_ E) [.agg [.sl none 0 5],mkS [98,97,115,101],mkS [97]] a λa c _=>aZ c λc=>cU (nI i) 2 Q a (cU (nI m) 2 Q a (bR (leI 0 0&&ltI 0 (nI i)) g a (tN 0*5) 3 (λ_ n=>cU (nI n) 1 Q a (bR (leI 0 1&&ltI 1 (nI i)) g a (tN 1*5) 3 (λ_ n=>cU (nI n) 2 Q a (cK (er_ e (mkS [111,110,101])) Q a (fo eb_ [d] a 0 Q (λa=>bR (leI 0 1&&ltI 1 (nI i)) g a (tN 1*5) 3 λd e=>d7 (leI 0 0&&ltI 0 (nI e)) d a (tN 0*3) λd=>cK (er_ d (mkS [115,105,120])) Q a (bR (leI 0 0&&ltI 0 (nI i)) g a (tN 0*5) 3 (λd e=>d7 (leI 0 0&&ltI 0 (nI e)) d a (tN 0*3) λd=>cK (er_ d (mkS [111,110,101])) Q a (fo eb_ [h] a 0 Q (λa=>bR (leI 0 1&&ltI 1 (nI m)) j a (tN 1*5) 3 λ_ d=>ep (nI d) 1 Q a (fo eb_ [l] a 0 Q (λa=>fo eb_ [f] a 1905 Q λa=>fo eb_ [b] a 1908 Q λa=>aG eb_ [c] a λa b=>dk Q b 2000 a)))))))))))))))))))):=zz
def xV_(E)(h:eE E):an_ prog 22 (fW_ E):=sO (eZ vh_ func26 (eZ (pG_ E h) func15 (eZ ot_ func17 (eZ kl_ func21 (eZ mR_ func18 (eZ uB_ func19 eN)))))) h func22
def b6_.cx:Cx:=⟨tys,[],[(16,[8,10,11,12,13])],[],[(29,aW_),(51,bf_),(67,dK_),(68,b7_),(53,bW_),(69,bd_)],av_,[.tmp 6,.tmp 7]⟩
def b6_:=fF b6_.cx f24
def b6_.l16 k a b c d e f g:=aS_ (b6_.cx) f24 16 k (B 8 (gI a::.bad::gI b::nL c d 5::nL e f 3::gI g::B 61 []))
theorem uY_:ar_ b6_.cx f24 (k+1) [nL x n 5,s,t] H Q=dx aW_ [nL x n 5] H Q [.s (.sl none 0 5),nN 1900] bf_ [s] Q [.s (.sl none 0 5),nN 1901] λa=>bz dK_ [nL x n 5,s] a λa b c=>bP b Q (.s (.sl none 0 5)) a (bR (leI 0 c&&ltI c (nI n)) x a (tN c*5) 3 (λb d=>aG b7_ [nL b d 3,t] a λa b=>aL bW_ [t] a Q [.s (.sl none 0 5),nN 1907] λa=>dV b 0 Q [.s (.sl none 0 5),nN 1908] a (aE bd_ [nL x n 5] a 5 (λa d e=>b6_.l16 k c b d e none 0 0 a Q)))):=zz
theorem b6_.l16_eq:b6_.l16 (k+1) i j x n y m h H Q=aB (leI 0 i&&ltI i (nI n)) x λa b=>aX H a (b+tN i*5+4) 3 h (d8 h j (cZ (leI 0 i&&ltI i (nI n)) x H (tN i*5) 3 0 h h (λa b=>dD H a (b+tN h*3) H a (b+tN h*3+1) λc d=>aD H a (b+tN h*3+1+1) λa=>dN H 108 3 40 y m [c,d,a] λa b c=>b6_.l16 k i j x n a b (ae_ .i64 (h+1)) c Q)) (b6_.l16 k i j x n y m (ae_ .i64 (h+1)) H Q)) (aB (leI 0 i&&ltI i (nI n)) x (λa b=>fd H a (b+tN i*5+4) y m 3 Q [.s (.sl x n 5),nN 0])):=zz
def u3_:an_ prog 24 (b6_):=sO (eZ e5_ func29 (eZ c5_ func51 (eZ ji_ func67 (eZ mP_ func68 (eZ eM_ func53 (eZ iG_ func69 eN)))))) nO func24
def bL_.cx:Cx:=⟨tys,[],[(4,[0,1,5])],[],[],av_,[.tmp 4]⟩
def bL_:=fF bL_.cx f73
def bL_.l4 k a b c d e:=aS_ (bL_.cx) f73 4 k (nL a b 3::nL c d 3::B 3 (gI e::B 20 []))
theorem rh_:ar_ bL_.cx f73 (k+1) [nL x n 3,nL y m 3] H Q=cU (nI n) (nI m) Q H (bL_.l4 k x n y m 0 H Q):=zz
theorem bL_.l4_eq:bL_.l4 (k+1) x n y m i H Q=bV i n (dt (leI 0 i&&ltI i (nI n)) x H (tN i*3) H H (λa b c=>dt (leI 0 i&&ltI i (nI m)) y H (tN i*3) H H λd e f=>bt (er_ a d&&(er_ b e&&(eqB c f&&true))) Q H (bL_.l4 k x n y m (ae_ .i64 (i+1)) H Q))) (Q true H):=zz
def qY_:an_ prog 73 (bL_):=sO eN nO func73
def fw_.cx:Cx:=⟨tys,[],[],[],[(73,bL_)],av_,[.tmp 4]⟩
def fw_:=fF fw_.cx f27
theorem sX_:ar_ fw_.cx f27 (k+1) [.agg [s,i,t,r,.sl x n 3],.agg [S,j,R,e,.sl y m 3]] H Q=cK (er_ s S) Q H (ep i j Q H (cK (er_ t R) Q H (cK (er_ r e) Q H (bO bL_ [nL x n 3,nL y m 3] H Q)))):=zz
def tp_:an_ prog 27 (fw_):=sO (eZ qY_ func73 eN) nO func27
def bN_.cx:Cx:=⟨tys,[],[(4,[0,1,5])],[],[(27,fw_)],av_,[.tmp 4]⟩
def bN_:=fF bN_.cx f30
def bN_.l4 k a b c d e:=aS_ (bN_.cx) f30 4 k (nL a b 5::nL c d 5::B 3 (gI e::B 21 []))
theorem ro_:ar_ bN_.cx f30 (k+1) [nL x n 5,nL y m 5] H Q=cU (nI n) (nI m) Q H (bN_.l4 k x n y m 0 H Q):=zz
theorem bN_.l4_eq:bN_.l4 (k+1) x n y m i H Q=bV i n (cS (leI 0 i&&ltI i (nI n)) x H (tN i*5) H H H H 3 (λa b c d e f=>cS (leI 0 i&&ltI i (nI m)) y H (tN i*5) H H H H 3 λg h j l o p=>bK fw_ [.agg [a,b,c,d,.sl e f 3],.agg [g,h,j,l,.sl o p 3]] H Q λa=>bN_.l4 k x n y m (ae_ .i64 (i+1)) a Q)) (Q true H):=zz
def rr_:an_ prog 30 (bN_):=sO (eZ tp_ func27 eN) nO func30
def gF_.cx:Cx:=⟨tys,[],[],[],[(20,bU_),(21,dz_),(30,bN_)],av_,[.tmp 8]⟩
def gF_:=fF gF_.cx f25
theorem yD_:ar_ gF_.cx f25 (k+1) [.agg [.sl x n 5],i,nL y m 5,j] H Q=cU i j Q H (d8 j 0 (bO bU_ [.agg [.sl x n 5],.agg [.sl none 0 5]] H Q) (du dz_ [.agg [.sl x n 5]] H 5 (λa b c d=>ep d 0 Q a (bO bN_ [nL y m 5,nL b c 5] a Q)))):=zz
def x9_:an_ prog 25 (gF_):=sO (eZ lt_ func20 (eZ kl_ func21 (eZ rr_ func30 eN))) nO func25
def iV_.cx E:=(⟨tys,[],[],[],[(14,cb_),(15,(e4_ E)),(16,hz_),(17,ds_),(18,dh_),(19,eb_),(20,bU_),(21,dz_),(22,(fW_ E)),(23,aU_),(24,b6_),(25,gF_)],E,[.tmp 8]⟩:Cx)
def iV_ E:=fF (iV_.cx E) f3
theorem xA_:ar_ (iV_.cx E) f3 (k+1) [.agg [.sl x n 5],s,t,r] H Q=bQ cb_ [.agg [.sl x n 5]] H 5 λa b c=>bJ (e4_ E) [.agg [.sl b c 5],s,t] a λa d e=>aZ d λd=>bJ hz_ [.agg [.sl x n 5],s,t] a λa f g=>aZ f λf=>fg ds_ [.agg [.sl b c 5],s,t,r] a 5 λa h i j=>fg dh_ [.agg [.sl b c 5],s,t] a 5 λa l m o=>bt (er_ e g) Q a (aG eb_ [d] a (λa d=>cU d f Q a (bK bU_ [.agg [.sl b c 5],.agg [.sl x n 5]] a Q (λa=>du dz_ [.agg [.sl x n 5]] a 5 λa b c d=>d8 d 0 (fo eb_ [j] a 2000 Q (λa=>fo eb_ [o] a 2000 Q λa=>bO (fW_ E) [] a Q)) (du aU_ [nL b c 5,s,t,r] a 5 (λa d e f=>du b6_ [nL b c 5,s,t] a 5 λa b c g=>aG eb_ [j] a λa j=>cM gF_ [.agg [.sl h i 5],j,nL d e 5,f] a Q λa=>aG eb_ [o] a λa d=>cM gF_ [.agg [.sl l m 5],d,nL b c 5,g] a Q λa=>bO (fW_ E) [] a Q)))))):=zz
def vY_(E)(h:eE E):an_ prog 3 (iV_ E):=sO (eZ sL_ func14 (eZ (pG_ E h) func15 (eZ yT_ func16 (eZ ot_ func17 (eZ mR_ func18 (eZ uB_ func19 (eZ lt_ func20 (eZ kl_ func21 (eZ (xV_ E h) func22 (eZ n8_ func23 (eZ u3_ func24 (eZ x9_ func25 eN)))))))))))) h func3
end Go.Am
namespace Go.Am
open List
open Go.Proofs.Tryz
variable{E:Nat->Sm}{k:Nat}{H:Hp}{Q:Post}{U X Y Z u w x x1 y z:Pl}{D L M N O l m n n1 o:Nat}{I g h i j:Int}{C b b1 b2 c d:Bool}{R S e r s t:ByteArray}{A a:Option Nat}{p q:List (Nat×Nat)}{F:Sm}
end Go.Am
namespace Go.Am
open List
theorem o3_:cW_ ((f,s)::l) f=s:=by simp[cW_]
theorem qK_(h:f≠g):cW_ ((g,s)::l) f=cW_ l f:=by
 unfold cW_;grind
def pT_(r:Q (gB (decide (1<=s.size)&&decide (s.size<=6))) H):du_ [gS s] H Q:=by
 refine⟨1,?_⟩;rw[Bc_];refine aa_ (λh=>?_) λh=>?_
 .simp[kV_]at h ⊢;rw[lE (o_:1<=s.size),Bool.true_and]at r;rw[show decide ((s.size:Int)<=6)=decide (s.size<=6) by rw[decide_eq_decide];omega];exact r
 .simp[kV_]at h;grind
def mG_(h:Q (gB (decide (s.size<=10))) H):ct_ [gS s] H Q:=by
 refine⟨1,?_⟩;rw[yA_];simp[kV_];rw[show decide ((s.size:Int)<=10)=decide (s.size<=10) by rw[decide_eq_decide];omega];exact h
def yx_(r:Q (gB (decide (1<=k)&&decide (k<48))) H):dV_ [gI k] H Q:=by
 refine⟨1,?_⟩;rw[B7_];refine aa_ (λh=>?_) λh=>?_
 .simp_all
 .simp at h;grind
def in_(xs:List Y_):Prop:=∀i,(h:i+1<xs.length)->dQ_ (xs[i]'o_) xs[i+1]=true
def tO_ (h:Ss H a n xs) (F:∀b,(b=true↔in_ xs)->Q (gB b) H):
 ∀m k:Nat,xs.length-k=m->(∀i,(hi:i+1<xs.length)->i<k->dQ_ (xs[i]'o_) xs[i+1]=true)->∃f,cP_.l2 f a n ((k+1:Nat):Int) H Q:=by
 intro m;have U:=h.len;have G:=h.lim;induction m with
 |zero=>
  refine λk I C=>⟨1,?_⟩;rw[cP_.l2_eq,(s_:ltI ((k+1:Nat)) (nI n)=false),gC_];exact F true ⟨λ_ i hi=>C i hi o_,λ_=>rfl⟩
 | succ m O=>
  intro k I C;by_cases r:k+1<xs.length
  ·have A:ltI ((k+1:Nat)) (nI n)=true:=by simp;omega
   cases D:dQ_ (xs[k]'o_) xs[k+1] with
   | true=>
    have⟨f,N⟩:=O (k+1) o_ (λi hi J=>by
     by_cases e:i=k
     .grind
     .exact C i hi o_)
    refine⟨f+1,?_⟩;rw[cP_.l2_eq,ay_ A,af_,h.rd k (en_ o_) o_,af_,h.rd (k+1) rfl r,aB_ g_,ao_ o_];exact N
   |false=>
    refine⟨1,?_⟩;rw[cP_.l2_eq,ay_ A,af_,h.rd k (en_ o_) o_,af_,h.rd (k+1) rfl r,ay_ (by rw[D];rfl)];refine F false ⟨λq=>(k_ q),λq=>?_⟩;rw[q k r]at D;cases D
  .refine⟨1,?_⟩;rw[cP_.l2_eq,(s_:ltI ((k+1:Nat)) (nI n)=false),gC_];exact F true ⟨λ_ i hi=>C i hi o_,λ_=>rfl⟩
def sr_(h:Ss H a n xs)(A:∀b,(b=true↔in_ xs)->Q (gB b) H):cP_ [nL a n 1] H Q:=by
 have⟨f,r⟩:=tO_ h A _ 0 rfl λi C h=>o_;exact⟨f+1,r⟩
def mc_{p:Y_->Bool}(A:∀(s:Y_)(H:Hp)(Q:Post),Q (gB (p s)) H->E f [gS s] H Q)(h:gt H l 0=some (.fn f []))
 (r:Q (gB (!(p s))) H):da_ E [gS s,yQ l] H Q:=by
 refine⟨1,?_⟩;rw[oz_,ac_ h,Jm_];exact A s H _ r
def rU_ {p:Y_->Bool} (I:∀(s:Y_)(Q:Post),Q (gB (p s)) H->E g [gS s,yQ l] H Q)
 (h:Ss H a n xs) (V:∀i:Int,(0<=i↔∃s∈xs,p s=true)->Q (gI i) H):
 ∀m k:Nat,xs.length-k=m->k<=xs.length->(∀i,(hi:i<xs.length)->i<k->p xs[i]=false)->∃f,aM_.l2 E f a n g [(l,0)] (nI n) (k:Int) H Q:=by
 intro m;have Y:=h.len;have F:=h.lim;induction m with
 |zero=>
  refine λk J D G=>⟨1,?_⟩;rw[aM_.l2_eq,(s_:ltI k (nI n)=false),gC_];refine V _ ⟨λq=>o_,fun⟨s,C,W⟩=>?_⟩;obtain⟨i,hi,rfl⟩:=kK C;grind
 | succ m U=>
  intro k J D G;have r:k<xs.length:=o_
  have A:ltI k (nI n)=true:=s_
  cases C:p xs[k] with
  | false=>
   have⟨f,O⟩:=U (k+1) o_ o_ (λi hi N=>by
    by_cases e:i=k
    .grind
    .exact G i hi o_)
   refine⟨f+1,?_⟩;rw[aM_.l2_eq,ay_ A,af_,h.rd k rfl r];refine I _ _ ?_;rw[aJ_,ak_,C,gC_,ao_ o_];exact O
  |true=>
   refine⟨1,?_⟩;rw[aM_.l2_eq,ay_ A,af_,h.rd k rfl r];refine I _ _ ?_;rw[aJ_,ak_,C,oY_];grind
def i2_ {p:Y_->Bool} (O:∀(s:Y_)(H:Hp)(Q:Post),Q (gB (p s)) H->E f [gS s] H Q)
 (h:Ss H a n xs) (D:∀b H',H<+:H'->(b=true↔∀s∈xs,p s=true)->Q (gB b) H'):et_ E [nL a n 1,.g (.fn f [])] H Q:=by
 refine⟨1,?_⟩;have F:=b4_ H (.row true KZ_ [.fn f []]);refine⟨1,?_⟩;have⟨k,N⟩:=rU_ (E:=cW_ [(Jb_,da_ E)]) (g:=Jb_) (l:=H.length)
  (λs Q D=>mc_ O (by simp[gt]) D) (Q:=λr J=>rG r λC=>dI .i64 C λI=>rG (gB (leI 0 I)) λC=>dB C λb3=>Q (gB (!b3)) J) (h.mono F)
  (fun i G=>by
   rw[aJ_,ai_,aJ_,ak_];refine D _ _ F ?_;simp only[kV_,Bool.not_eq_true',decide_eq_false_iff_not];rw[G];constructor
   .intro q s A;cases e:p s with
    |true=>rfl
    |false=>exact (q ⟨s,A,g_⟩).elim
   .rintro q ⟨s,A,e⟩;rw[q s A]at e;cases e) _ 0 rfl (kP _) λi G h=>o_
 exact⟨k+1,N
⟩
def pb_{p:Int->Bool}(A:∀(s:Int)(H:Hp)(Q:Post),Q (gB (p s)) H->E f [gI s] H Q)(h:gt H l 0=some (.fn f []))
 (r:Q (gB (!(p s))) H):eg_ E [gI s,yQ l] H Q:=by
 refine⟨1,?_⟩;rw[rp_,ac_ h,Jm_];exact A s H _ r
def xo_ {p:Int->Bool} {g l:Nat} (I:∀(s:Int)(Q:Post),Q (gB (p s)) H->E g [gI s,yQ l] H Q)
 (h:Is H a n xs) (V:∀i:Int,(0<=i↔∃s∈xs,p s=true)->Q (gI i) H):
 ∀m k:Nat,xs.length-k=m->k<=xs.length->(∀i,(hi:i<xs.length)->i<k->p xs[i]=false)->∃f,a2_.l2 E f a n g [(l,0)] (nI n) (k:Int) H Q:=by
 intro m;have Y:=h.len;have F:=h.lim;induction m with
 |zero=>
  refine λk J D G=>⟨1,?_⟩;rw[a2_.l2_eq,(s_:ltI k (nI n)=false),gC_];refine V _ ⟨λq=>o_,fun⟨s,C,W⟩=>?_⟩;obtain⟨i,hi,rfl⟩:=kK C;grind
 | succ m U=>
  intro k J D G;have r:k<xs.length:=o_
  have A:ltI k (nI n)=true:=s_
  cases C:p xs[k] with
  | false=>
   have⟨f,O⟩:=U (k+1) o_ o_ (λi hi N=>by
    by_cases e:i=k
    .grind
    .exact G i hi o_)
   refine⟨f+1,?_⟩;rw[a2_.l2_eq,ay_ A,af_,h.rd k rfl r];refine I _ _ ?_;rw[aJ_,ak_,C,gC_,ao_ o_];exact O
  |true=>
   refine⟨1,?_⟩;rw[a2_.l2_eq,ay_ A,af_,h.rd k rfl r];refine I _ _ ?_;rw[aJ_,ak_,C,oY_];grind
def rZ_ {p:Int->Bool} (O:∀(s:Int)(H:Hp)(Q:Post),Q (gB (p s)) H->E f [gI s] H Q)
 (h:Is H a n xs) (D:∀b H',H<+:H'->(b=true↔∀s∈xs,p s=true)->Q (gB b) H'):gZ_ E [nL a n 1,.g (.fn f [])] H Q:=by
 refine⟨1,?_⟩;have F:=b4_ H (.row true K5_ [.fn f []]);refine⟨1,?_⟩;have⟨k,N⟩:=xo_ (E:=cW_ [(Jc_,eg_ E)]) (g:=Jc_) (l:=H.length)
  (λs Q D=>pb_ O (by simp[gt]) D) (Q:=λr J=>rG r λC=>dI .i64 C λI=>rG (gB (leI 0 I)) λC=>dB C λb3=>Q (gB (!b3)) J) (h.mono F)
  (fun i G=>by
   rw[aJ_,ai_,aJ_,ak_];refine D _ _ F ?_;simp only[kV_,Bool.not_eq_true',decide_eq_false_iff_not];rw[G];constructor
   .intro q s A;cases e:p s with
    |true=>rfl
    |false=>exact (q ⟨s,A,g_⟩).elim
   .rintro q ⟨s,A,e⟩;rw[q s A]at e;cases e) _ 0 rfl (kP _) λi G h=>o_
 exact⟨k+1,N⟩
def Ji_(zs:List Int):Prop:=∀i,(h:i+1<zs.length)->zs[i]'o_≠zs[i+1]
theorem Is.row{C:List Int}(h:H[l]?=some (.row own t (C.map (GV.int .i64))))(D:o+n=C.length)(r:n*8<=140737488351232):Is H (some (l,o)) n (C.drop o):=
 ⟨by simp only[cells?,h];rw[if_pos g_];rw[<-map_drop,<-map_take,k7 g_],g_,r⟩
def Ds_ {H0:Hp} {l n o n2:Nat} {Q:Post} (hb:H0.length<=l) (hlim:n*8<=140737488351232) (hon:o+n2=n) (hQ:∀(j:Nat) H',H0<+:H'->j<n->Q (nL (some (l,0)) j 1) H'):
 ∀(m' m j:Nat)(H:Hp)(ws:List Int),n2-m=m'->1<=m->m<=n2->1<=j->j+1<=o+m->H0<+:H->H[l]?=some (.row true tI (ws.map (GV.int .i64)))->ws.length=n->
  ∃f,au_.l9 f (some (l,0)) n (j:Int) (some (l,o)) n2 (m:Int) H Q:=by
 intro m';induction m' with
 | zero=>
  intro m j H ws hm h1 h2 hj hjo h0 hrow hw;refine⟨1,?_⟩;obtain⟨d,hd⟩:∃d,n-j=d+1:=⟨n-j-1,o_⟩;rw[au_.l9_eq,aB_ s_,af_];refine ab_ t_ (ab_ s_ ?_);simp only[D3_,Int.toNat_natCast,Nat.mul_one,wO_,kN,af_,hd];show (match H[l]? with
   |some (.row true t cs)=>j+(d+1)*1<=cs.length/\_
   |_=>False)
  rw[hrow];refine⟨s_,ab_ t_ (ab_ s_ ?_)⟩;exact hQ j _ (dI_ h0 hb _) o_
 | succ m' ih=>
  intro m j H ws hm h1 h2 hj hjo h0 hrow hw;have hI:=Is.row (o:=o) (n:=n2) hrow o_ o_;have hmn:m<(ws.drop o).length:=s_
  obtain⟨m1,rfl⟩:∃m1,m=m1+1:=⟨m-1,o_⟩;have hm1:m1<(ws.drop o).length:=o_
  have hlt:ltI ((m1+1:Nat):Int) (nI n2)=true:=s_
  by_cases he:(ws.drop o)[m1+1]=(ws.drop o)[m1]
  .obtain⟨f,hf⟩:=ih (m1+1+1) j H ws o_ o_ o_ hj o_ h0 hrow hw;refine⟨f+1,?_⟩;rw[au_.l9_eq,ay_ hlt,af_,hI.rd (m1+1) rfl hmn,af_,hI.rd m1 (en_ o_) hm1,aB_ (u_ he),ao_ o_];exact hf
  ·have hjn:j<(ws.map (GV.int .i64)).length:=by simp;omega
   obtain⟨f,hf⟩:=ih (m1+1+1) (j+1) (H.set l (.row true tI ((ws.set j (ws.drop o)[m1+1]).map (GV.int .i64)))) (ws.set j (ws.drop o)[m1+1]) o_ o_ o_ o_ o_ (dI_ h0 hb _)
    (by rw[kH];exact (kC.1 hrow).1) (u_ hw)
   refine⟨f+1,?_⟩;rw[au_.l9_eq,ay_ hlt,af_,hI.rd (m1+1) rfl hmn,af_,hI.rd m1 (en_ o_) hm1,ay_ (u_ he),af_,hI.rd (m1+1) rfl hmn,af_];refine ab_ s_ ?_;simp only[D3_,Int.toNat_natCast,Nat.mul_one,ad_,kN];rw[pM_ hrow hjn,ao_ o_,ao_ o_];rw[List.map_set]at hf;exact hf
def AL_ {H0 H:Hp} {l:Nat} {zs:List Int} {Q:Post} (h0:H0<+:H) (hb:H0.length<=l) (hrow:H[l]?=some (.row true tI (zs.map (GV.int .i64)))) (hlim:zs.length*8<=140737488351232)
 (hQ:∀(a:Pl)(j:Nat) H',H0<+:H'->(j=zs.length↔Ji_ zs)->Q (nL a j 1) H'):au_ [nL (some (l,0)) zs.length 1] H Q:=by
 have hI:=Is.row (o:=0) (n:=zs.length) hrow o_ hlim;rw[drop_zero]at hI;have loop:∀m k:Nat,zs.length-k=m->k+1<=zs.length->(∀i,(h:i+1<zs.length)->i<k->zs[i]'o_≠zs[i+1])->∃f,au_.l4 f (some (l,0)) zs.length ((k+1:Nat):Int) H Q:=by
  intro m;induction m with
  |zero=>intro k hm hk;omega
  | succ m ih=>
   intro k hm hk hne;by_cases hkn:k+1<zs.length
   ·have hlt:ltI ((k+1:Nat):Int) (nI zs.length)=true:=by simp;omega
    by_cases he:zs[k+1]=zs[k]'o_
    ·obtain⟨f,hf⟩:=Ds_ (H0:=H0) (l:=l) (n:=zs.length) (o:=k+1) (n2:=zs.length-(k+1)) (Q:=Q) hb hlim o_ (λj H' h1 h2=>hQ _ j H' h1 ⟨λe=>o_,λq=>(q k hkn he.symm).elim⟩)
      _ 1 (k+1) H zs rfl o_ o_ o_ o_ h0 hrow rfl
     refine⟨f+1,?_⟩;rw[au_.l4_eq,ay_ hlt,af_,hI.rd (k+1) rfl hkn,af_,hI.rd k (en_ o_) o_,ay_ (u_ he),af_];refine ab_ s_ (ab_ s_ ?_);simp only[D3_,Int.toNat_natCast,Nat.mul_one,wO_,kN];exact hf
    ·obtain⟨f,hf⟩:=ih (k+1) o_ o_ (λi hi hik=>by
      by_cases e:i=k
      .subst e;exact λq=>he q.symm
      .exact hne i hi o_)
     refine⟨f+1,?_⟩;rw[au_.l4_eq,ay_ hlt,af_,hI.rd (k+1) rfl hkn,af_,hI.rd k (en_ o_) o_,aB_ (u_ he),ao_ o_];exact hf
   .refine⟨1,?_⟩;rw[au_.l4_eq,aB_ s_];exact hQ _ _ _ h0 ⟨λ_ i hi=>hne i hi o_,λ_=>rfl⟩
 by_cases h2:zs.length<2
 .refine⟨1,?_⟩;rw[eV_,ay_ s_];exact hQ _ _ _ h0 ⟨λ_ i hi=>o_,λ_=>rfl⟩
 .obtain⟨f,hf⟩:=loop _ 0 rfl o_ λi hi h=>o_;refine⟨f+1,?_⟩;rw[eV_,aB_ s_];exact hf
theorem zQ_ {zs:List Int}:Ji_ (zs.mergeSort λx y=>decide (x<=y))↔zs.Nodup:=by
 have G:=mergeSort_perm zs λx y=>decide (x<=y);have A:(zs.mergeSort λx y=>decide (x<=y)).Pairwise λx y=>x<=y:=by
  have:=pairwise_mergeSort (le:=λ(x y:Int)=>decide (x<=y)) (λa b c D C=>g_) (λa b=>s_) zs;grind
 rw[<-G.nodup_iff];generalize (zs.mergeSort λx y=>decide (x<=y))=ws at A;constructor
 ·intro h;rw[Nodup,kS];have key:∀d i,(r:i+d+1<ws.length)->ws[i]'o_<ws[i+d+1]:=by
   intro d;induction d with
   |zero=>
    intro i r;have D:=(kS.1 A) i (i+1) o_ o_ o_;have C:=h i o_;grind
   |succ d F=>
    intro i r;have D:=F i o_;have C:=(kS.1 A) (i+d+1) (i+(d+1)+1) o_ o_ o_;omega
  intro i j r J I;obtain⟨d,rfl⟩:∃d,j=i+d+1:=⟨j-i-1,o_⟩;grind
 .exact λh i r=>(kS.1 h) i (i+1) o_ o_ o_
def tk_ (h:Is H a n zs) (U:∀b H',H<+:H'->(b=true↔zs.Nodup)->Q (gB b) H'):gO_ E [nL a n 1] H Q:=by
 refine⟨1,?_⟩;rw[xe_];refine⟨1,⟨1,?_⟩⟩;rw[om_];refine⟨1,?_⟩;rw[ni_];have C:=h.len;have G:=h.lim;have J:=b4_ H (.row true tIs [.sl a n 1]);refine⟨H.length,tIs,[.sl a n 1],a,n,zs,rfl,t_,rfl,(h.mono J).cells,by unfold Lim;omega,λI=>?_,λI=>?_⟩
 .simp[aJ_];refine .inl ⟨rfl,⟨1,?_⟩⟩;rw[eV_,ay_ t_];simp_all
 ·simp only[aJ_,ah_];refine .inr ⟨(H++[Obj.row true tIs [.sl a n 1]]).length,zs,rfl,I,by unfold Lim;omega,t_,?_⟩;have e:((H++[Obj.row true tIs [.sl a n 1]])++[Obj.row true tI (zs.map (GV.int .i64))]).set (H++[Obj.row true tIs [.sl a n 1]]).length (Obj.row true tI ((zs.mergeSort λx y=>decide (x<=y)).map (GV.int .i64)))=
   (H++[Obj.row true tIs [.sl a n 1]])++[Obj.row true tI ((zs.mergeSort λx y=>decide (x<=y)).map (GV.int .i64))]:=by
   grind
  simp only[fv_];rw[e];have A:(zs.mergeSort λx y=>decide (x<=y)).length=zs.length:=t_
  have key:=AL_ (H:=(H++[Obj.row true tIs [.sl a n 1]])++[Obj.row true tI ((zs.mergeSort λx y=>decide (x<=y)).map (GV.int .i64))]) (l:=(H++[Obj.row true tIs [.sl a n 1]]).length)
   (zs:=zs.mergeSort λx y=>decide (x<=y)) (J.trans (prefix_append _ _)) t_ t_ o_
   (Q:=λW V=>rG W λD=>dL 1 D λO F=>Q (gB (eqI (nI F) (nI n))) V) (λZ j H' N Y=>by
    simp[aJ_];refine U _ _ N ?_;rw[<-zQ_,<-Y,A,<-C];simp;omega)
  rw[A]at key;exact key
structure Pg where
 used:Bool
 leaf:Bool
 keys:List Y_
 vals:List Y_
 kids:List Int
structure jy_(H:Hp)(u l:Bool)(a1:Pl)(n1:Nat)(a2:Pl)(n2:Nat)(a3:Pl)(n3:Nat)(p:Pg):Prop where
 used:p.used=u
 leaf:p.leaf=l
 keys:Ss H a1 n1 p.keys
 vals:Ss H a2 n2 p.vals
 kids:Is H a3 n3 p.kids
theorem jy_.mono{H H':Hp}(r:H<+:H')(h:jy_ H u l a1 n1 a2 n2 a3 n3 p):jy_ H' u l a1 n1 a2 n2 a3 n3 p:=
 ⟨h.used,h.leaf,h.keys.mono r,h.vals.mono r,h.kids.mono r⟩
structure i8_(p:Pg):Prop where
 used:p.used=true
 rising:in_ p.keys
 keys:∀k∈p.keys,1<=k.size/\k.size<=6
 leaf:p.leaf=true->p.vals.length=p.keys.length/\p.kids=[]/\∀v∈p.vals,v.size<=10
 inner:p.leaf=false->1<=p.keys.length/\p.vals=[]/\p.kids.length=p.keys.length+1/\(∀k∈p.kids,1<=k/\k<48)/\p.kids.Nodup
def fm_(p:Pg):Prop:=p.keys.length<=4/\i8_ p
section
variable{H:Hp}{Q:Post}{u l:Bool}{a1:Pl}{n1:Nat}{a2:Pl}{n2:Nat}{a3:Pl}{n3:Nat}{p:Pg}
def oo_ (h:jy_ H u l a1 n1 a2 n2 a3 n3 p) (hQ:∀b H',H<+:H'->(b=true↔i8_ p)->Q (gB b) H'):
 hG_ [.agg [.bool u,.bool l,.sl a1 n1 1,.sl a2 n2 1,.sl a3 n3 1]] H Q:=by
 obtain⟨hu,hl,hk,hv,hi⟩:=h;have n1e:=hk.len;have n2e:=hv.len;have n3e:=hi.len;have l1:=hk.lim;have l3:=hi.lim;have EK:∀(s:Y_)(H:Hp)(Q:Post),Q (gB (decide (1<=s.size)&&decide (s.size<=6))) H->cW_ [(IW_,du_),(H2_,ct_),(Is_,dV_)] IW_ [gS s] H Q:=
  λs H Q q=>by rw[o3_];exact pT_ q
 have EV:∀(s:Y_)(H:Hp)(Q:Post),Q (gB (decide (s.size<=10))) H->cW_ [(IW_,du_),(H2_,ct_),(Is_,dV_)] H2_ [gS s] H Q:=
  λs H Q q=>by rw[qK_ d_,o3_];exact mG_ q
 have EI:∀(s:Int)(H:Hp)(Q:Post),Q (gB (decide (1<=s)&&decide (s<48))) H->cW_ [(IW_,du_),(H2_,ct_),(Is_,dV_)] Is_ [gI s] H Q:=
  λs H Q q=>by rw[qK_ d_,qK_ d_,o3_];exact yx_ q
 refine⟨1,?_⟩;rw[AX_];refine aa_ (λe=>hQ _ _ (k8 _) ⟨λq=>(k_ q),λq=>?_⟩) λe=>?_
 .rw[<-hu,q.used]at e;cases e
 refine sr_ hk λb hb=>?_;simp only[aJ_,ak_];refine aa_ (λe1=>hQ _ _ (k8 _) ⟨λq=>(k_ q),λq=>?_⟩) λe1=>?_
 .rw[hb.2 q.rising]at e1;cases e1
 refine i2_ EK hk λb2 H2 p2 hb2=>?_;simp only[aJ_,ak_];have hkeys:(∀k∈p.keys,1<=k.size/\k.size<=6)↔∀s∈p.keys,(decide (1<=s.size)&&decide (s.size<=6))=true:=t_
 refine aa_ (λe2=>hQ _ _ p2 ⟨λq=>(k_ q),λq=>?_⟩) λe2=>?_
 .rw[hb2.2 (hkeys.1 q.keys)]at e2;cases e2
 have hR:in_ p.keys:=hb.1 (by cases b<;>simp_all);have hK:=hkeys.2 (hb2.1 (by cases b2<;>simp_all));have hU:p.used=true:=by rw[hu];cases u<;>simp_all
 refine aa_ (λe3=>?_) λe3=>?_
 .have hL:p.leaf=true:=by rw[hl];exact e3
  refine aa_ (λe4=>?_) λe4=>hQ _ _ p2 ⟨λq=>(k_ q),λq=>?_⟩
  rotate_left
  .have:=(q.leaf hL).1;simp at e4;omega
  refine aa_ (λe5=>?_) λe5=>hQ _ _ p2 ⟨λq=>(k_ q),λq=>?_⟩
  rotate_left
  .have:=(q.leaf hL).2.1;simp[this]at n3e;simp at e5;omega
  refine i2_ EV (hv.mono p2) λb3 H3 p3 hb3=>?_;simp only[aJ_,ak_];refine hQ _ _ (p2.trans p3) (hb3.trans ⟨λq=>⟨hU,hR,hK,λ_=>⟨?_,?_,u_ q⟩,λq=>(by rw[hL]at q;cases q)⟩,λq=>by simpa using (q.leaf hL).2.2⟩)
  .simp at e4;omega
  .simp at e5;exact eq_nil_of_length_eq_zero o_
 .have hL:p.leaf=false:=by rw[hl];exact e3
  refine aa_ (λe4=>?_) λe4=>hQ _ _ p2 ⟨λq=>(k_ q),λq=>?_⟩
  rotate_left
  .have:=(q.inner hL).1;simp at e4;omega
  refine aa_ (λe5=>?_) λe5=>hQ _ _ p2 ⟨λq=>(k_ q),λq=>?_⟩
  rotate_left
  .have:=(q.inner hL).2.1;simp[this]at n2e;simp at e5;omega
  refine aa_ (λe6=>?_) λe6=>hQ _ _ p2 ⟨λq=>(k_ q),λq=>?_⟩
  rotate_left
  .have:=(q.inner hL).2.2.1;simp only[jj_]at e6;rw[ao_ o_]at e6;simp at e6;omega
  simp only[jj_]at e6;rw[ao_ o_]at e6;refine rZ_ EI (hi.mono p2) λb3 H3 p3 hb3=>?_;simp only[aJ_,ak_];refine aa_ (λe7=>?_) λe7=>hQ _ _ (p2.trans p3) ⟨λq=>(k_ q),λq=>?_⟩
  rotate_left
  .rw[hb3.2 (by simpa using (q.inner hL).2.2.2.1)]at e7;cases e7
  refine tk_ (hi.mono (p2.trans p3)) λb4 H4 p4 hb4=>?_;simp only[aJ_,ak_];refine hQ _ _ ((p2.trans p3).trans p4) (hb4.trans ⟨λq=>⟨hU,hR,hK,λq=>(by rw[hL]at q;cases q),λ_=>⟨?_,?_,?_,by simpa using hb3.1 e7,q⟩⟩,λq=>(q.inner hL).2.2.2.2⟩)
  .simp at e4;omega
  .simp at e5;exact eq_nil_of_length_eq_zero o_
  .simp at e6;omega
def iN_(h:jy_ H u l a1 n1 a2 n2 a3 n3 p)(r:∀b H',H<+:H'->(b=true↔fm_ p)->Q (gB b) H'):
 hf_ [.agg [.bool u,.bool l,.sl a1 n1 1,.sl a2 n2 1,.sl a3 n3 1]] H Q:=by
 have D:=h.keys.len;refine⟨1,aa_ (λe=>?_) λe=>r _ _ (k8 _) ⟨λq=>g_,λq=>?_⟩⟩
 .refine oo_ h λb H' A C=>?_;simp at e;exact r _ _ A (C.trans ⟨λq=>⟨o_,q⟩,λq=>q.2⟩)
 .have:=q.1;simp at e;omega
def g5_ {xs:List Y_} (h:Ss H a1 n1 xs) (hQ:∀b,(b=true↔(in_ xs/\∀k∈xs,1<=k.size/\k.size<=6))->Q (gB b) H):bV_ [nL a1 n1 1] H Q:=by
 have hn:=h.len;have hlim:=h.lim;have loop:∀m k:Nat,xs.length-k=m->k<=xs.length->(∀i,(hi:i<xs.length)->i<k->1<=xs[i].size/\xs[i].size<=6)->(∀i,(hi:i+1<xs.length)->i+1<k->dQ_ (xs[i]'o_) xs[i+1]=true)->
  ∃f,bV_.l2 f a1 n1 (k:Int) H Q:=by
  intro m;induction m with
  |zero=>
   intro k hm hle h1 h2;refine⟨1,?_⟩;rw[bV_.l2_eq,aB_ s_];exact hQ true ⟨λ_=>⟨λi hi=>h2 i hi o_,λs hs=>by obtain⟨i,hi,rfl⟩:=kK hs;exact h1 i hi o_⟩,λ_=>rfl⟩
  | succ m ih=>
   intro k hm hle h1 h2;have hkn:k<xs.length:=o_
   have hlt:ltI (k:Int) (nI n1)=true:=s_
   by_cases c1:xs[k].size<1
   .refine⟨1,?_⟩;rw[bV_.l2_eq,ay_ hlt,af_,h.rd k rfl hkn,ay_ s_];exact hQ false ⟨λq=>(k_ q),λq=>by have:=(q.2 _ (kE hkn)).1;omega⟩
   by_cases c2:6<xs[k].size
   .refine⟨1,?_⟩;rw[bV_.l2_eq,ay_ hlt,af_,h.rd k rfl hkn,aB_ s_,af_,h.rd k rfl hkn,ay_ s_];exact hQ false ⟨λq=>(k_ q),λq=>by have:=(q.2 _ (kE hkn)).2;omega⟩
   have h1':∀i,(hi:i<xs.length)->i<k+1->1<=xs[i].size/\xs[i].size<=6:=λi hi hik=>by
    by_cases e:i=k
    .subst e;omega
    .exact h1 i hi o_
   cases k with
   |zero=>
    obtain⟨f,hf⟩:=ih 1 o_ o_ h1' λi hi h=>o_;refine⟨f+1,?_⟩;rw[bV_.l2_eq,ay_ hlt,af_,h.rd 0 rfl hkn,aB_ s_,af_,h.rd 0 rfl hkn,aB_ s_,aB_ t_,ao_ o_];exact hf
   | succ k=>
    cases hs:dQ_ (xs[k]'o_) xs[k+1] with
    | true=>
     obtain⟨f,hf⟩:=ih (k+1+1) o_ o_ h1' (λi hi hik=>by
      by_cases e:i=k
      .subst e;exact hs
      .exact h2 i hi o_)
     refine⟨f+1,?_⟩;rw[bV_.l2_eq,ay_ hlt,af_,h.rd (k+1) rfl hkn,aB_ s_,af_,h.rd (k+1) rfl hkn,aB_ s_,ay_ (by simp<;>omega),af_,h.rd (k+1) rfl hkn,af_,
      h.rd k (en_ o_) o_,aB_ (by rw[zk_]at hs;simpa using hs),ao_ o_]
     exact hf
    | false=>
     refine⟨1,?_⟩;rw[bV_.l2_eq,ay_ hlt,af_,h.rd (k+1) rfl hkn,aB_ s_,af_,h.rd (k+1) rfl hkn,aB_ s_,ay_ (by simp<;>omega),af_,h.rd (k+1) rfl hkn,af_,
      h.rd k (en_ o_) o_,ay_ (by rw[zk_]at hs;rw[o1_];rw[Bool.not_eq_false']at hs;exact hs)]
     exact hQ false ⟨λq=>(k_ q),λq=>by rw[q.1 k hkn]at hs;cases hs⟩
 obtain⟨f,hf⟩:=loop _ 0 rfl (kP _) (λi hi h=>o_) λi hi h=>o_;exact⟨f+1,by rw[vP_];exact hf⟩
def qv_ {most:Nat} (hmost:most<=1000) (h:jy_ H u l a1 n1 a2 n2 a3 n3 p) (hQ:∀b,(b=true↔(p.keys.length<=most/\i8_ p))->Q (gB b) H):
 aK_ [.agg [.bool u,.bool l,.sl a1 n1 1,.sl a2 n2 1,.sl a3 n3 1],gI most] H Q:=by
 obtain⟨hu,hl,hk,hv,hi⟩:=h;have n1e:=hk.len;have n2e:=hv.len;have n3e:=hi.len;have l1:=hk.lim;have l2:=hv.lim;have l3:=hi.lim;have leafs:p.leaf=true->(∀b,(b=true↔(p.vals.length=p.keys.length/\p.kids=[]/\∀v∈p.vals,v.size<=10))->Q (gB b) H)->∀m k:Nat,p.vals.length-k=m->k<=p.vals.length->(∀i,(hi:i<p.vals.length)->i<k->(p.vals[i]).size<=10)->
  ∃f,aK_.l5 f u l a1 n1 a2 n2 a3 n3 (k:Int) H Q:=by
  intro hL hQ' m;induction m with
  |zero=>
   intro k hm hle h1;refine⟨1,?_⟩;rw[aK_.l5_eq,aB_ s_];have hall:∀v∈p.vals,v.size<=10:=λs hs=>by obtain⟨i,hi,rfl⟩:=kK hs;exact h1 i hi o_
   refine aa_ (λe=>hQ' _ ?_) λe=>hQ' _ ⟨λq=>(k_ q),λq=>?_⟩
   .simp at e ⊢;refine⟨λq=>⟨o_,eq_nil_of_length_eq_zero o_,hall⟩,λq=>?_⟩;have:=q.2.1;rw[this]at n3e;exact n3e
   .have:=q.1;simp at e;omega
  | succ m ih=>
   intro k hm hle h1;have hkn:k<p.vals.length:=o_
   have hlt:ltI (k:Int) (nI n2)=true:=s_
   by_cases c1:10<(p.vals[k]).size
   .refine⟨1,?_⟩;rw[aK_.l5_eq,ay_ hlt,af_,hv.rd k rfl hkn,ay_ s_];exact hQ' false ⟨λq=>(k_ q),λq=>by have:=q.2.2 _ (kE hkn);omega⟩
   ·obtain⟨f,hf⟩:=ih (k+1) o_ o_ (λi hi hik=>by
     by_cases e:i=k
     .subst e;omega
     .exact h1 i hi o_)
    refine⟨f+1,?_⟩;rw[aK_.l5_eq,ay_ hlt,af_,hv.rd k rfl hkn,aB_ s_,ao_ o_];exact hf
 have inners:p.leaf=false->(∀b,(b=true↔(1<=p.keys.length/\p.vals=[]/\p.kids.length=p.keys.length+1/\(∀k∈p.kids,1<=k/\k<48)/\p.kids.Nodup))->Q (gB b) H)->∀m k:Nat,p.kids.length-k=m->k<=p.kids.length->
  (∀i,(hi:i<p.kids.length)->i<k->1<=p.kids[i]/\p.kids[i]<48)->(∀i j,(hj:j<p.kids.length)->(hij:i<j)->j<k->p.kids[i]'o_≠p.kids[j])->
  ∃f,aK_.l11 f u l a1 n1 a2 n2 a3 n3 (k:Int) H Q:=by
  intro hL hQ' m;induction m with
  | zero=>
   intro k hm hle h1 h2;refine⟨1,?_⟩;rw[aK_.l11_eq,aB_ s_];have hall:∀v∈p.kids,1<=v/\v<48:=λs hs=>by obtain⟨i,hi,rfl⟩:=kK hs;exact h1 i hi o_
   have hnd:p.kids.Nodup:=by
    rw[Nodup,kS];exact λi j _ hj hij=>h2 i j hj hij o_
   refine aa_ (λe=>?_) λe=>hQ' _ ⟨λq=>(k_ q),λq=>?_⟩
   rotate_left
   .have:=q.1;simp at e;omega
   refine aa_ (λe2=>hQ' _ ?_) λe2=>hQ' _ ⟨λq=>(k_ q),λq=>?_⟩
   rotate_left
   .have:=q.2.1;rw[this]at n2e;simp at e2 n2e;omega
   simp only[jj_];rw[ao_ o_];simp at e e2 ⊢;exact⟨λq=>⟨o_,eq_nil_of_length_eq_zero o_,o_,hall,hnd⟩,λq=>h_ q.2.2.1⟩
  | succ m ih=>
   intro k hm hle h1 h2;have hkn:k<p.kids.length:=o_
   have hlt:ltI (k:Int) (nI n3)=true:=s_
   by_cases c1:p.kids[k]<1
   .refine⟨1,?_⟩;rw[aK_.l11_eq,ay_ hlt,af_,hi.rd k rfl hkn,ay_ (u_ c1)];exact hQ' false ⟨λq=>(k_ q),λq=>by have:=q.2.2.2.1 _ (kE hkn);omega⟩
   by_cases c2:48<=p.kids[k]
   .refine⟨1,?_⟩;rw[aK_.l11_eq,ay_ hlt,af_,hi.rd k rfl hkn,aB_ (u_ c1),af_,hi.rd k rfl hkn,ay_ (u_ c2)];exact hQ' false ⟨λq=>(k_ q),λq=>by have:=q.2.2.2.1 _ (kE hkn);omega⟩
   have loop:∀m' j:Nat,k-j=m'->j<=k->(∀i,(hi:i<j)->(hi2:i<k)->p.kids[i]'o_≠p.kids[k])->∃f,aK_.l16 f u l a1 n1 a2 n2 a3 n3 (k:Int) (j:Int) H Q:=by
    intro m';induction m' with
    | zero=>
     intro j hj hjk h3;obtain⟨f,hf⟩:=ih (k+1) o_ o_
      (λi hi hik=>by
       by_cases e:i=k
       .subst e;omega
       .exact h1 i hi o_)
      (λi j' hj' hij hjk'=>by
       by_cases e:j'=k
       .subst e;exact h3 i o_ hij
       .exact h2 i j' hj' hij o_)
     refine⟨f+1,?_⟩;rw[aK_.l16_eq,aB_ s_,ao_ o_];exact hf
    | succ m' ih'=>
     intro j hj hjk h3;have hjn:j<p.kids.length:=o_
     by_cases e:p.kids[j]=p.kids[k]
     .refine⟨1,?_⟩;rw[aK_.l16_eq,ay_ s_,af_,hi.rd j rfl hjn,af_,hi.rd k rfl hkn,ay_ (u_ e)];refine hQ' false ⟨λq=>(k_ q),λq=>?_⟩;exact ((kS.1 q.2.2.2.2) j k hjn hkn o_ e).elim
     ·obtain⟨f,hf⟩:=ih' (j+1) o_ o_ (λi hi hi2=>by
       by_cases e':i=j
       .subst e';exact e
       .exact h3 i o_ hi2)
      refine⟨f+1,?_⟩;rw[aK_.l16_eq,ay_ s_,af_,hi.rd j rfl hjn,af_,hi.rd k rfl hkn,aB_ (u_ e),ao_ o_];exact hf
   obtain⟨f,hf⟩:=loop _ 0 rfl (kP _) λi hi=>o_;refine⟨f+1,?_⟩;rw[aK_.l11_eq,ay_ hlt,af_,hi.rd k rfl hkn,aB_ (u_ c1),af_,hi.rd k rfl hkn,aB_ (u_ c2)];exact hf
 by_cases cu:u=true
 rotate_left
 .refine⟨1,?_⟩;rw[fJ_,ay_ (by cases u<;>simp_all)];exact hQ _ ⟨λq=>(k_ q),λq=>by have:=q.2.used;rw[hu]at this;exact (cu this).elim⟩
 by_cases cr:in_ p.keys/\∀k∈p.keys,1<=k.size/\k.size<=6
 rotate_left
 .refine⟨1,?_⟩;rw[fJ_,aB_ (by rw[cu];rfl)];refine g5_ hk λb hb=>?_;simp only[aJ_,ak_];rw[ay_ (by cases b with|false=>rfl|true=>exact (cr (hb.1 rfl)).elim)];exact hQ _ ⟨λq=>(k_ q),λq=>(cr ⟨q.2.rising,q.2.keys⟩).elim⟩
 by_cases cm:n1<=most
 rotate_left
 .refine⟨1,?_⟩;rw[fJ_,aB_ (by rw[cu];rfl)];refine g5_ hk λb hb=>?_;simp only[aJ_,ak_];rw[aB_ (by rw[hb.2 cr];rfl),ay_ s_];exact hQ _ ⟨λq=>(k_ q),λq=>h_ q.1⟩
 cases hL:p.leaf with
 |true=>
  obtain⟨f,hf⟩:=leafs hL (λb hb=>hQ b (hb.trans ⟨λq=>⟨o_,by rw[hu];exact cu,cr.1,cr.2,λ_=>q,λe=>(by rw[hL]at e;cases e)⟩,λq=>q.2.leaf hL⟩)) _ 0 rfl (kP _) λi hi h=>o_;refine⟨f+1,?_⟩;rw[fJ_,aB_ (by rw[cu];rfl)];refine g5_ hk λb hb=>?_;simp only[aJ_,ak_];rw[aB_ (by rw[hb.2 cr];rfl),aB_ s_,ay_ (by rw[<-hl];exact hL)];exact hf
 |false=>
  obtain⟨f,hf⟩:=inners hL (λb hb=>hQ b (hb.trans ⟨λq=>⟨o_,by rw[hu];exact cu,cr.1,cr.2,λe=>(by rw[hL]at e;cases e),λ_=>q⟩,λq=>q.2.inner hL⟩)) _ 0 rfl (kP _) (λi hi h=>o_) λi j hj hij h=>o_;refine⟨f+1,?_⟩;rw[fJ_,aB_ (by rw[cu];rfl)];refine g5_ hk λb hb=>?_;simp only[aJ_,ak_];rw[aB_ (by rw[hb.2 cr];rfl),aB_ s_,aB_ (by rw[<-hl];exact hL)];exact hf
def ry_(h:jy_ H u l a1 n1 a2 n2 a3 n3 p)(A:∀b,(b=true↔fm_ p)->Q (gB b) H):
 g2_ [.agg [.bool u,.bool l,.sl a1 n1 1,.sl a2 n2 1,.sl a3 n3 1]] H Q:=⟨1,qv_ (most:=4) o_ h λb C=>A b C⟩
end
theorem lO_{α:Type}{l:List α}{x:α}(h:l[i]?=some x):l.set i x=l:=by
 apply ext_getElem?;grind
def Dj(a b:Pl):Prop:=∀l,a=some (l,0)->b≠some (l,0)
theorem Dj.symm(h:Dj a b):Dj b a:=λl r A=>h l A r
theorem Own.lt'(h:Own H b t a n cs)(e:a=some (l,0)):l<H.length:=by subst e;exact h.lt
def Own.after(h:Own H b t a n cs)(A:Dj a0 a)(r:Ex H0 a0 H H'):Own H' b t a n cs:=
 h.keep λl e=>r.row l (h.lt' e) λC=>A l C e
theorem Dj.fresh{a r:Pl}(h:Own H b t a n cs)(D:∀l o,r=some (l,o)->H.length<=l):Dj r a:=λl C A=>by
 have:=D l 0 C;have:=h.lt' A;omega
theorem Own.set(h:Own H b t a n cs)(r:a≠some (l,0))(x:Obj):Own (H.set l x) b t a n cs:=
 h.keep λA e=>g_
structure eJ_(H:Hp)(b:Nat)(u l:Bool)(a1:Pl)(n1:Nat)(a2:Pl)(n2:Nat)(a3:Pl)(n3:Nat)(p:Pg):Prop where
 used:p.used=u
 leaf:p.leaf=l
 keys:Own H b tS a1 n1 (p.keys.map GV.str)
 vals:Own H b tS a2 n2 (p.vals.map GV.str)
 kids:Own H b tI a3 n3 (p.kids.map (GV.int .i64))
 d12:Dj a1 a2
 d13:Dj a1 a3
 d23:Dj a2 a3
 small:n1<=1000/\n2<=1000/\n3<=1000
theorem eJ_.at(h:eJ_ H b u l a1 n1 a2 n2 a3 n3 p):jy_ H u l a1 n1 a2 n2 a3 n3 p:=by
 have⟨D,F,A,C,r,_,_,_,s⟩:=h;refine⟨D,F,⟨A.cells,?_,o_⟩,⟨C.cells,?_,o_⟩,⟨r.cells,?_,o_⟩⟩
 .have:=A.len;simpa using this.symm
 .have:=C.len;simpa using this.symm
 .have:=r.len;simpa using this.symm
theorem Own.mono{H H':Hp}(r:H<+:H')(h:Own H b t a n cs):Own H' b t a n cs:=h.keep λl e=>a9_ r (h.lt' e)
theorem eJ_.mono{H H':Hp}(r:H<+:H')(h:eJ_ H b u l a1 n1 a2 n2 a3 n3 p):eJ_ H' b u l a1 n1 a2 n2 a3 n3 p:=
 ⟨h.used,h.leaf,h.keys.mono r,h.vals.mono r,h.kids.mono r,h.d12,h.d13,h.d23,h.small⟩
def noPg:Pg:=⟨false,false,[],[],[]⟩
def Hu_(H:Hp)(b:Nat):eJ_ H b false false none 0 none 0 none 0 noPg:=
 ⟨rfl,rfl,.inl ⟨rfl,rfl,rfl⟩,.inl ⟨rfl,rfl,rfl⟩,.inl ⟨rfl,rfl,rfl⟩,λ_ e=>t_,λ_ e=>t_,λ_ e=>t_,o_⟩
def EO_(H:Hp):jy_ H false false none 0 none 0 none 0 noPg:=(Hu_ H 0).at
def df_(h:Q (gI n) H):eb_ [gI n] H Q:=⟨1,h⟩
def xn_{α:Type}{xs ys:List α}(h:xs.length=ys.length)(C:∀i,(r:i<xs.length)->(A:i<ys.length)->xs[i]=ys[i]):xs=ys:=ext_getElem h λi r A=>C i r A
section
variable{H:Hp}{Q:Post}{a1 a2:Pl}{n1 n2:Nat}
def jw_ {xs ys:List Y_} (h1:Ss H a1 n1 xs) (h2:Ss H a2 n2 ys) (hQ:∀b,(b=true↔xs=ys)->Q (gB b) H):bO_ [nL a1 n1 1,nL a2 n2 1] H Q:=by
 have e1:=h1.len;have e2:=h2.len;have l1:=h1.lim;by_cases hl:xs.length=ys.length
 ·have loop:∀f k:Nat,xs.length-k<f->k<=xs.length->(∀i,(h1:i<xs.length)->(h2:i<ys.length)->i<k->xs[i]=ys[i])->bO_.l4 f a1 n1 a2 n2 (k:Int) H Q:=by
   intro f;induction f with
   |zero=>intro k hf;omega
   | succ f ih=>
    intro k hf hk he;rw[bO_.l4_eq];by_cases hkn:k<xs.length
    ·rw[ay_ s_,af_,h1.rd k rfl hkn,af_];have hc:(ltI (k:Int) (nI n1))=(ltI (k:Int) (nI n2)):=by rw[e1,e2,hl]
     rw[h2.rd k rfl o_];by_cases hs:xs[k]=ys[k]
     ·rw[aB_ (u_ hs),ao_ o_];exact ih (k+1) o_ o_ λi q1 q2 hik=>by
       by_cases e:i=k
       .subst e;exact hs
       .exact he i q1 q2 o_
     .rw[ay_ (u_ hs)];exact hQ _ ⟨λq=>(k_ q),λq=>(hs (by simp[q])).elim⟩
    .rw[aB_ s_];exact hQ _ ⟨λ_=>xn_ hl λi q1 q2=>he i q1 q2 o_,λ_=>rfl⟩
  refine⟨xs.length+2,?_⟩;rw[kO_,aB_ s_];exact loop _ 0 o_ (kP _) λi _ _ h=>o_
 .refine⟨1,?_⟩;rw[kO_,ay_ s_];exact hQ _ ⟨λq=>(k_ q),λq=>(hl (by rw[q])).elim⟩
def qt_ {xs ys:List Int} (h1:Is H a1 n1 xs) (h2:Is H a2 n2 ys) (hQ:∀b,(b=true↔xs=ys)->Q (gB b) H):ci_ [nL a1 n1 1,nL a2 n2 1] H Q:=by
 have e1:=h1.len;have e2:=h2.len;have l1:=h1.lim;by_cases hl:xs.length=ys.length
 ·have loop:∀f k:Nat,xs.length-k<f->k<=xs.length->(∀i,(h1:i<xs.length)->(h2:i<ys.length)->i<k->xs[i]=ys[i])->ci_.l4 f a1 n1 a2 n2 (k:Int) H Q:=by
   intro f;induction f with
   |zero=>intro k hf;omega
   | succ f ih=>
    intro k hf hk he;rw[ci_.l4_eq];by_cases hkn:k<xs.length
    ·rw[ay_ s_,af_,h1.rd k rfl hkn,af_];rw[h2.rd k rfl o_];by_cases hs:xs[k]=ys[k]
     ·rw[aB_ (u_ hs),ao_ o_];exact ih (k+1) o_ o_ λi q1 q2 hik=>by
       by_cases e:i=k
       .subst e;exact hs
       .exact he i q1 q2 o_
     .rw[ay_ (u_ hs)];exact hQ _ ⟨λq=>(k_ q),λq=>(hs (by simp[q])).elim⟩
    .rw[aB_ s_];exact hQ _ ⟨λ_=>xn_ hl λi q1 q2=>he i q1 q2 o_,λ_=>rfl⟩
  refine⟨xs.length+2,?_⟩;rw[lP_,aB_ s_];exact loop _ 0 o_ (kP _) λi _ _ h=>o_
 .refine⟨1,?_⟩;rw[lP_,ay_ s_];exact hQ _ ⟨λq=>(k_ q),λq=>(hl (by rw[q])).elim⟩
end
section
variable{H:Hp}{Q:Post}{u l:Bool}{a1:Pl}{n1:Nat}{a2:Pl}{n2:Nat}{a3:Pl}{n3:Nat}{p:Pg}{u' l':Bool}{a1':Pl}{n1':Nat}{a2':Pl}{n2':Nat}{a3':Pl}{n3':Nat}{q:Pg}
def qa_(r:jy_ H u l a1 n1 a2 n2 a3 n3 p)(A:jy_ H u' l' a1' n1' a2' n2' a3' n3' q)(C:∀b,(b=true↔p=q)->Q (gB b) H):
 fp_ [.agg [.bool u,.bool l,.sl a1 n1 1,.sl a2 n2 1,.sl a3 n3 1],.agg [.bool u',.bool l',.sl a1' n1' 1,.sl a2' n2' 1,.sl a3' n3' 1]] H Q:=by
 refine⟨1,?_⟩;rw[sK_];refine aa_ (λG=>?_) λG=>C _ ⟨λq=>g_,λe=>?_⟩
 rotate_left
 .rw[<-r.used,<-A.used,e]at G;simp at G
 refine aa_ (λD=>?_) λD=>C _ ⟨λq=>g_,λe=>?_⟩
 rotate_left
 .rw[<-r.leaf,<-A.leaf,e]at D;simp at D
 refine jw_ r.keys A.keys λW I=>aa_ (λO=>?_) λO=>C _ ⟨λq=>g_,λe=>?_⟩
 rotate_left
 .grind
 refine jw_ r.vals A.vals λY N=>aa_ (λJ=>?_) λJ=>C _ ⟨λq=>g_,λe=>?_⟩
 rotate_left
 .grind
 refine qt_ r.kids A.kids λb5 F=>C _ (F.trans ⟨λe=>?_,λe=>by rw[e]⟩);have q3:=r.used;have Z:=r.leaf;have V:=A.used;have U:=A.leaf;cases p;cases q;simp_all
end
theorem Own.wr{H0 H:Hp}(F:H0<+:H)(h:Own H H0.length t a n cs)(k:Nat){i:Int}(hi:i=k)(O:k<n)
 (I:∀H',Own H' H0.length t a n (cs.set k v)->Ex H0 a H H'->K H'):chk (leI 0 i&&ltI i (nI n)) (pS a λC D=>Am.wr H C (D+tN i*1) v K):=by
 subst hi;refine ab_ (a_) ?_;rcases h with⟨_,rfl,_⟩|⟨l,rfl,A,r,N⟩
 .omega
 .simp[ad_];rw[pM_ r o_];refine I _ (.inr ⟨l,rfl,A,kH (kC.1 r).1,g_⟩) ⟨dI_ F A _,t_,λJ _ G=>?_⟩;grind
theorem Ex.trans(h:Ex H0 a H H1)(A:Ex H0 a H1 H2):Ex H0 a H H2:=
 ⟨A.pre,Nat.le_trans h.len A.len,λl C r=>(A.row l (Nat.lt_of_lt_of_le C h.len) r).trans (h.row l C r)⟩
def Ex.refl{H0 H:Hp}(h:H0<+:H):Ex H0 a H H:=⟨h,kO _,λ_ _ _=>rfl⟩
section
variable{H0 H:Hp}{u l:Bool}{a1:Pl}{n1:Nat}{a2:Pl}{n2:Nat}{a3:Pl}{n3:Nat}{p:Pg}
def eJ_.setKey(h:eJ_ H H0.length u l a1 n1 a2 n2 a3 n3 p)(D:H0<+:H)(k:Nat){i:Int}(hi:i=k)(r:k<n1)(s:Y_)
 (F:∀H',H0<+:H'->eJ_ H' H0.length u l a1 n1 a2 n2 a3 n3 { p with keys:=p.keys.set k s }->K H'):chk (leI 0 i&&ltI i (nI n1)) (pS a1 λA C=>Am.wr H A (C+tN i*1) (.str s) K):=
 h.keys.wr D k hi r λH' o x=>F H' x.pre ⟨h.used,h.leaf,a_,h.vals.after h.d12 x,h.kids.after h.d13 x,h.d12,h.d13,h.d23,h.small⟩
def eJ_.setVal(h:eJ_ H H0.length u l a1 n1 a2 n2 a3 n3 p)(D:H0<+:H)(k:Nat){i:Int}(hi:i=k)(r:k<n2)(s:Y_)
 (F:∀H',H0<+:H'->eJ_ H' H0.length u l a1 n1 a2 n2 a3 n3 { p with vals:=p.vals.set k s }->K H'):chk (leI 0 i&&ltI i (nI n2)) (pS a2 λA C=>Am.wr H A (C+tN i*1) (.str s) K):=
 h.vals.wr D k hi r λH' o x=>F H' x.pre ⟨h.used,h.leaf,h.keys.after h.d12.symm x,a_,h.kids.after h.d23 x,h.d12,h.d13,h.d23,h.small⟩
def eJ_.addKeys(h:eJ_ H H0.length u l a1 n1 a2 n2 a3 n3 p)(C:H0<+:H)(xs:List Y_)(D:cs=xs.map GV.str)(A:m=xs.length)(G:n1+m<=1000)
 (F:∀r H',H0<+:H'->eJ_ H' H0.length u l r (n1+m) a2 n2 a3 n3 { p with keys:=p.keys++xs }->K r (n1+m) H'):ap H tS 1 16 a1 n1 cs m K:=by
 subst D;subst A;refine k5_ C h.keys t_ (by unfold Lim;omega) λr H' o x f=>F r H' x.pre ?_;have:=h.small;exact⟨h.used,h.leaf,g_,h.vals.after h.d12 x,h.kids.after h.d13 x,Dj.fresh h.vals f,Dj.fresh h.kids f,h.d23,o_⟩
def eJ_.addVals(h:eJ_ H H0.length u l a1 n1 a2 n2 a3 n3 p)(C:H0<+:H)(xs:List Y_)(D:cs=xs.map GV.str)(A:m=xs.length)(G:n2+m<=1000)
 (F:∀r H',H0<+:H'->eJ_ H' H0.length u l a1 n1 r (n2+m) a3 n3 { p with vals:=p.vals++xs }->K r (n2+m) H'):ap H tS 1 16 a2 n2 cs m K:=by
 subst D;subst A;refine k5_ C h.vals t_ (by unfold Lim;omega) λr H' o x f=>F r H' x.pre ?_;have:=h.small;exact⟨h.used,h.leaf,h.keys.after h.d12.symm x,g_,h.kids.after h.d23 x,(Dj.fresh h.keys f).symm,h.d13,Dj.fresh h.kids f,o_⟩
def eJ_.addKids(h:eJ_ H H0.length u l a1 n1 a2 n2 a3 n3 p)(C:H0<+:H)(xs:List Int)(D:cs=xs.map (GV.int .i64))(A:m=xs.length)(G:n3+m<=1000)
 (F:∀r H',H0<+:H'->eJ_ H' H0.length u l a1 n1 a2 n2 r (n3+m) { p with kids:=p.kids++xs }->K r (n3+m) H'):ap H tI 1 8 a3 n3 cs m K:=by
 subst D;subst A;refine k5_ C h.kids t_ (by unfold Lim;omega) λr H' o x f=>F r H' x.pre ?_;have:=h.small;exact⟨h.used,h.leaf,h.keys.after h.d13.symm x,h.vals.after h.d23.symm x,g_,h.d12,(Dj.fresh h.keys f).symm,(Dj.fresh h.vals f).symm,o_⟩
end
def k0_(H:Hp)(lo hi:Nat)(t:TypeId)(a:Pl)(n:Nat)(cs:List GV):Prop:=
 (a=none/\n=0/\cs=[])\/∃l o ds,a=some (l,o)/\lo<=l/\l<hi/\H[l]?=some (.row true t ds)/\o+n<=ds.length/\(ds.drop o).take n=cs
def Dr(a b:Pl):Prop:=∀l o o',a=some (l,o)->b≠some (l,o')
structure Ch(lo hi:Nat)(H H':Hp):Prop where
 len:H.length<=H'.length
 row:∀l,l<H.length-> ¬ (lo<=l/\l<hi)->H'[l]?=H[l]?
theorem Ch.trans(h:Ch lo hi H H1)(C:Ch lo hi H1 H2):Ch lo hi H H2:=
 ⟨Nat.le_trans h.len C.len,λl r A=>(C.row l (Nat.lt_of_lt_of_le r h.len) A).trans (h.row l r A)⟩
def Ch.refl(lo hi:Nat)(H:Hp):Ch lo hi H H:=⟨kO _,λ_ _ _=>rfl⟩
def Ch.of_pre{H H':Hp}(h:H<+:H'):Ch lo hi H H':=⟨h.length_le,λl r _=>a9_ h r⟩
theorem Ch.pre{H0 H H':Hp}(h:Ch lo hi H H')(r:H0<+:H)(A:H0.length<=lo):H0<+:H':=by
 rw[prefix_iff_eq_take];apply ext_getElem?;intro i;rw[getElem?_take];split
 .rename_i hi;rw[h.row i (Nat.lt_of_lt_of_le hi r.length_le) o_,a9_ r hi]
 .grind
section
variable{H H':Hp}{lo hi:Nat}{t:TypeId}{a:Pl}{n:Nat}{cs:List GV}
theorem k0_.keep(h:k0_ H lo hi t a n cs)(G:∀l o,a=some (l,o)->H'[l]?=H[l]?):k0_ H' lo hi t a n cs:=by
 rcases h with h|⟨l,o,C,rfl,A,F,I,D,r⟩
 .exact .inl h
 .exact .inr ⟨l,o,C,rfl,A,F,g_,D,r⟩
theorem k0_.lt(h:k0_ H lo hi t a n cs)(e:a=some (l,o)):l<H.length/\lo<=l/\l<hi:=by
 rcases h with⟨h,_⟩|⟨r,G,D,C,A,I,F,_⟩
 .grind
 .grind
theorem k0_.mono(h:k0_ H lo hi t a n cs)(r:H<+:H'):k0_ H' lo hi t a n cs:=h.keep λl o e=>a9_ r (h.lt e).1
theorem k0_.cells(h:k0_ H lo hi t a n cs):cells? H a n=some cs:=by
 rcases h with⟨rfl,rfl,rfl⟩|⟨l,o,F,rfl,D,G,C,A,r⟩
 .rfl
 .simp only[cells?,C];rw[if_pos A,r]
theorem k0_.len(h:k0_ H lo hi t a n cs):cs.length=n:=Fv_ h.cells
theorem k0_.part(h:k0_ H lo hi t a n cs)(k m:Nat)(G:k+m<=n):k0_ H lo hi t (shf a k) m ((cs.drop k).take m):=by
 rcases h with⟨rfl,rfl,rfl⟩|⟨l,o,D,rfl,C,F,A,I,r⟩
 .exact .inl ⟨rfl,o_,t_⟩
 .refine .inr ⟨l,o+k,D,rfl,C,F,A,o_,?_⟩;rw[<-r,drop_take,take_take,drop_drop,Nat.min_eq_left o_]
theorem Dr.shf (h:Dr a b) (k m:Nat):Dr (shf a k) (shf b m):=by
 intro l o G r A;cases a with
 |none=>cases r
 | some p=>
  cases b with
  |none=>cases A
  |some q=>
   have⟨I,C⟩:=p;have⟨F,D⟩:=q;simp at r A;exact h l C D g_ g_
theorem k0_.wr (h:k0_ H lo hi t a n cs) (k:Nat) {i:Int} (A:i=k) (Y:k<n)
 (N:∀H',k0_ H' lo hi t a n (cs.set k v)->Ch lo hi H H'->(∀l,l<H.length->(∀o,a≠some (l,o))->H'[l]?=H[l]?)->K H'):chk (leI 0 i&&ltI i (nI n)) (pS a λO F=>Am.wr H O (F+tN i*1) v K):=by
 subst A;refine ab_ (a_) ?_;rcases h with⟨_,rfl,_⟩|⟨l,o,V,rfl,D,G,C,W,U⟩
 .omega
 .simp[ad_];rw[pM_ C o_];have J:=(kC.1 C).1;refine N _ (.inr ⟨l,o,_,rfl,D,G,kH J,g_,?_⟩) ⟨t_,λI _ r=>?_⟩ (λI _ r=>?_)
  .rw[<-U,drop_set,if_neg o_,take_set,(o_:o+k-o=k)]
  .grind
  .grind
end
structure PgM(H:Hp)(lo hi:Nat)(u l:Bool)(a1:Pl)(n1:Nat)(a2:Pl)(n2:Nat)(a3:Pl)(n3:Nat)(p:Pg):Prop where
 used:p.used=u
 leaf:p.leaf=l
 keys:k0_ H lo hi tS a1 n1 (p.keys.map GV.str)
 vals:k0_ H lo hi tS a2 n2 (p.vals.map GV.str)
 kids:k0_ H lo hi tI a3 n3 (p.kids.map (GV.int .i64))
 d12:Dr a1 a2
 d13:Dr a1 a3
 d23:Dr a2 a3
 small:n1<=1000/\n2<=1000/\n3<=1000
section
variable{H H':Hp}{lo hi:Nat}{u l:Bool}{a1:Pl}{n1:Nat}{a2:Pl}{n2:Nat}{a3:Pl}{n3:Nat}{p:Pg}
theorem PgM.at(h:PgM H lo hi u l a1 n1 a2 n2 a3 n3 p):jy_ H u l a1 n1 a2 n2 a3 n3 p:=by
 have⟨D,F,C,A,r,_,_,_,s⟩:=h;refine⟨D,F,⟨C.cells,?_,o_⟩,⟨A.cells,?_,o_⟩,⟨r.cells,?_,o_⟩⟩
 .have:=C.len;simpa using this.symm
 .have:=A.len;simpa using this.symm
 .have:=r.len;simpa using this.symm
theorem PgM.mono(h:PgM H lo hi u l a1 n1 a2 n2 a3 n3 p)(r:H<+:H'):PgM H' lo hi u l a1 n1 a2 n2 a3 n3 p:=
 ⟨h.used,h.leaf,h.keys.mono r,h.vals.mono r,h.kids.mono r,h.d12,h.d13,h.d23,h.small⟩
def Own.dr (h:Own H b t a n cs) (D:Own H b t' a' n' cs') (C:Dj a a'):Dr a a':=by
 intro l o G e A;rcases h with⟨q,_⟩|⟨m,q,_⟩
 .grind
 .rcases D with⟨r,_⟩|⟨F,r,_⟩
  .grind
  .rw[q]at e;rw[r]at A;cases e;cases A;exact C l q r
end
end Go.Am
namespace Go.Am
structure PC where
 u:Bool
 l:Bool
 a1:Pl
 n1:Nat
 a2:Pl
 n2:Nat
 a3:Pl
 n3:Nat
def PC.cells(c:PC):List GV:=[.bool c.u,.bool c.l,.sl c.a1 c.n1 1,.sl c.a2 c.n2 1,.sl c.a3 c.n3 1]
@[simp] theorem PC.cells_length (c:PC):c.cells.length=5:=rfl
def PC.at(H:Hp)(c:PC)(p:Pg):Prop:=jy_ H c.u c.l c.a1 c.n1 c.a2 c.n2 c.a3 c.n3 p
theorem PC.at.mono{H H':Hp}(r:H<+:H'){c:PC}(h:c.at H p):c.at H' p:=jy_.mono r h
def a0_(cs:List PC):List GV:=cs.flatMap PC.cells
theorem cz_(cs:List PC):(a0_ cs).length=cs.length*5:=by
 unfold a0_;induction cs with
 |nil=>rfl
 |cons c cs h=>simp[h];omega
theorem pF_(cs h:List PC):a0_ (cs++h)=a0_ cs++a0_ h:=by simp[a0_]
theorem kx_ (hi:i<cs.length) (r:j<5):(a0_ cs)[i*5+j]?=(cs[i].cells)[j]? :=by
 unfold a0_;induction cs generalizing i with
 |nil=>simp at hi
 | cons c cs h=>
  simp;cases i with
  |zero=>rw[kM (a_)];simp
  |succ i=>
   rw[List.getElem?_append_right s_];have e:(i+1)*5+j-c.cells.length=i*5+j:=s_
   grind
structure Tr(H:Hp)(a:Pl)(n:Nat)(cs:List PC)(T:List Pg):Prop where
 cells:cells? H a (n*5)=some (a0_ cs)
 len:cs.length=n
 lenT:T.length=n
 all:∀i (h:i<cs.length) (h':i<T.length),(cs[i]).at H T[i]
theorem Tr.mono{H H':Hp}(r:H<+:H')(h:Tr H a n cs T):Tr H' a n cs T:=⟨lX_ r h.cells,h.len,h.lenT,λi C A=>(h.all i C A).mono r⟩
theorem Tr.get (h:Tr H a n cs T) (hi:i<n):∃l o c p,a=some (l,o)/\cs[i]?=some c/\T[i]?=some p/\c.at H p/\
 gt H l (o+i*5)=some (.bool c.u)/\gt H l (o+i*5+1)=some (.bool c.l)/\gt H l (o+i*5+2)=some (.sl c.a1 c.n1 1)/\gt H l (o+i*5+3)=some (.sl c.a2 c.n2 1)/\gt H l (o+i*5+4)=some (.sl c.a3 c.n3 1):=by
 have F:=h.len;have D:=h.lenT;have A:=h.cells;cases a with
 |none=>simp[cells?]at A;omega
 | some q=>
  have⟨l,o⟩:=q;have r:∀j,j<5->gt H l (o+i*5+j)=((cs[i]'o_).cells)[j]? :=by
   intro j C;have:=jR_ A (j:=i*5+j) o_;rw[<-Nat.add_assoc]at this;rw[this,kx_ o_ C]
  exact⟨l,o,cs[i]'o_,T[i]'o_,rfl,t_,t_,h.all i o_ o_,r 0 o_,r 1 o_,r 2 o_,r 3 o_,r 4 o_⟩
theorem cx_{c:PC}{K:Bool->Bool->Pl->Nat->Pl->Nat->Pl->Nat->Prop}(Y:gt H l j=some (.bool c.u))(C:gt H l (j+1)=some (.bool c.l))(r:gt H l (j+2)=some (.sl c.a1 c.n1 1))(h3:gt H l (j+3)=some (.sl c.a2 c.n2 1))(J:gt H l (j+4)=some (.sl c.a3 c.n3 1)):
 (rd H l j λv0=>dB v0 λA=>rd H l (j+1) λF=>dB F λN=>rd H l (j+1+1) λI=>dL 1 I λZ n2=>rd H l (j+1+1+1) λW=>dL 1 W λD O=>rd H l (j+1+1+1+1) λV=>dL 1 V λU G=>K A N Z n2 D O U G)=K c.u c.l c.a1 c.n1 c.a2 c.n2 c.a3 c.n3:=by
 rw[ac_ Y,ak_,ac_ C,ak_,ac_ r,ah_,ac_ h3,ah_,ac_ J,ah_]
end Go.Am
namespace Go.Am
open List
open Go.RowKit Go.ChangeShapes Go.WideShapes Go.Proofs
def JY_(F:P.underlying t=some (.struct fs))(h:Value.okWide P W r b t v):∃A:Array Value,v= .agg A/\∀x∈A.toList,Zc W x:=by
 unfold Value.okWide at h;rw[F]at h;obtain⟨A,rfl,_,J,_,_,I⟩:=h;refine⟨A,rfl,λx D=>?_⟩;obtain⟨i,N,rfl⟩:=kK D;have⟨u,_,G⟩:=I i A[i] t_;exact Hg_ G
section
variable{Hh:Type}{enc:TypeId × Value->Hh}{W:World}{held:Bool}
def II_ {fuel:Nat} {cs:List Value} {x:DataW Hh × List MemPlace} (h:DataW.trod enc Tryz.prog W 0 (λ_=>true) held fuel 100 cs=some x) (hz:∀v∈cs,Zc W v) (hw:(DataW.weights Tryz.prog 100 x.1).all (· <=reachBytes)=true)
 {φ:List LI} {H:Hp} (hr:cX_ φ H W) (hn:i7_ H):
 ∃φ' H' u l a1 n1 a2 n2 a3 n3 p,φ<+:φ'/\H<+:H'/\cX_ φ' H' W/\i7_ H'/\Is2 φ' [.bool u,.bool l,.sl a1 n1 1,.sl a2 n2 1,.sl a3 n3 1] cs/\jy_ H' u l a1 n1 a2 n2 a3 n3 p:=by
 obtain⟨xs,n,rfl,rfl,hlen,hxs,hf⟩:=DataW.trod_struct Tryz.underlying100 h;have h5:Tryz.prog.cellsOf 100=5:=by kernel_rfl
 have cB:Tryz.prog.cellsOf 4=1:=by kernel_rfl
 have c22:Tryz.prog.cellsOf 46=1:=by kernel_rfl
 have c23:Tryz.prog.cellsOf 47=1:=by kernel_rfl
 rw[h5]at hlen
 match cs,hlen with
 | [v0,v1,v2,v3,v4],_=>
  have f0:DataW.trod enc Tryz.prog W 0 (λ_=>true) held n 4 (([v0,v1,v2,v3,v4].drop 0).take (Tryz.prog.cellsOf 4))=xs[0]? :=hf 0 _ rfl;have f1:DataW.trod enc Tryz.prog W 0 (λ_=>true) held n 4 (([v0,v1,v2,v3,v4].drop 1).take (Tryz.prog.cellsOf 4))=xs[1]? :=hf 1 _ rfl;have f2:DataW.trod enc Tryz.prog W 0 (λ_=>true) held n 46 (([v0,v1,v2,v3,v4].drop 2).take (Tryz.prog.cellsOf 46))=xs[2]? :=hf 2 _ rfl;have f3:DataW.trod enc Tryz.prog W 0 (λ_=>true) held n 46 (([v0,v1,v2,v3,v4].drop 3).take (Tryz.prog.cellsOf 46))=xs[3]? :=hf 3 _ rfl;have f4:DataW.trod enc Tryz.prog W 0 (λ_=>true) held n 47 (([v0,v1,v2,v3,v4].drop 4).take (Tryz.prog.cellsOf 47))=xs[4]? :=hf 4 _ rfl;simp only[cB,c22,c23,drop_zero,drop_succ_cons,take_succ_cons,take_zero]at f0 f1 f2 f3 f4
  match xs,hxs with
  | [x0,x1,x2,x3,x4],_=>
   simp only[getElem?_cons_zero,getElem?_cons_succ]at f0 f1 f2 f3 f4;simp only[map_cons,map_nil,DataW.weights,Tryz.underlying100]at hw;obtain⟨u,e0,_⟩:=DataW.trod_bool Tryz.underlying4 f0;obtain⟨l,e1,_⟩:=DataW.trod_bool Tryz.underlying4 f1;simp only[List.cons.injEq,and_true]at e0 e1;subst e0;subst e1;obtain⟨φ1,H1,a1,n1,ks,w2,e2,p1,q1,r1,o1,i1,s1⟩:=wy_ Tryz.underlying46 Tryz.underlying9 (by kernel_rfl) (by kernel_rfl) f2 (λv hv=>hz v (by simp at hv;simp[hv])) (oE_ hw (j:=2) rfl rfl) hr hn;obtain⟨φ2,H2,a2,n2,vs,w3,e3,p2,q2,r2,o2,i2,s2⟩:=wy_ Tryz.underlying46 Tryz.underlying9 (by kernel_rfl) (by kernel_rfl) f3 (λv hv=>hz v (by simp at hv;simp[hv])) (oE_ hw (j:=3) rfl rfl) r1 o1;obtain⟨φ3,H3,a3,n3,is,w4,e4,p3,q3,r3,o3,i3,s3⟩:=Gk_ Tryz.underlying47 Tryz.underlying3 (by kernel_rfl) (by kernel_rfl) f4 (λv hv=>hz v (by simp at hv;simp[hv])) (oE_ hw (j:=4) rfl rfl) r2 o2;simp only[List.cons.injEq,and_true]at e2 e3 e4;subst e2;subst e3;subst e4;exact⟨φ3,H3,u,l,a1,n1,a2,n2,a3,n3,⟨u,l,ks,vs,is⟩,p1.trans (p2.trans p3),q1.trans (q2.trans q3),r3,o3,
    .cons rfl (.cons rfl (.cons (GV.is.mono (p2.trans p3) i1) (.cons (GV.is.mono p3 i2) (.cons i3 .nil)))),⟨rfl,rfl,s1.mono (q2.trans q3),s2.mono q3,s3⟩⟩
def ui_:∀{D:List (DataW Hh)},(DataW.weightsAll P e D).all (· <=reachBytes)=true->∀{i:Nat}{d:DataW Hh},D[i]?=some d->(DataW.weights P e d).all (· <=reachBytes)=true
 |[],_,i,d,h=>g_
 |d0::r,A,0,d,h=>by
  simp[DataW.weightsAll]at A;grind
 |d0::r,A,i+1,d,h=>by
  simp only[DataW.weightsAll,all_append,kR]at A;exact ui_ A.2 h
theorem Is2.get(h:Is2 φ cs vs){j:Nat}(r:cs[j]?=some v):∃x,vs[j]?=some x/\v.is φ x:=cA_.get h r
def Dx_ {fuel:Nat} {cs:List Value} {x:DataW Hh × List MemPlace} (h:DataW.trod enc Tryz.prog W 0 (λ_=>true) held fuel 22 cs=some x) (hz:∀v∈cs,Zc W v) (hw:(DataW.weights Tryz.prog 22 x.1).all (· <=reachBytes)=true)
 {φ:List LI} {H:Hp} (hr:cX_ φ H W) (hn:i7_ H):
 ∃φ' H' a n ps T v,cs=[v]/\φ<+:φ'/\H<+:H'/\cX_ φ' H' W/\i7_ H'/\GV.is φ' (.sl a n 5) v/\Tr H' a n ps T/\n*80<=140737488351232:=by
 have h5:Tryz.prog.cellsOf 100=5:=by kernel_rfl
 rcases DataW.trod_slice Tryz.underlying22 h with⟨rfl,rfl⟩|⟨a,len,cap,elems,rest,n,rfl,rfl,rfl,_,hl,hcap,hel,hi,hrest,_⟩
 .exact⟨φ,H,none,0,[],[],_,rfl,k8 _,k8 _,hr,hn,⟨rfl,rfl⟩,⟨rfl,rfl,rfl,λi h1=>(j_ h1)⟩,o_⟩
 rw[h5]at hi hrest;obtain⟨hrl,hrj⟩:=hrest rfl;simp only[DataW.weights,Tryz.underlying22]at hw;rw[all_cons,all_append,kR,kR]at hw;obtain⟨hw0,hw1,_⟩:=hw;have hpos:0<W.heap.size:=hz (.slice (some a) len cap) (mem_singleton.2 rfl) _ _ _ rfl;have hsp:0<cap->a.spot=none/\a.block<W.heap.size:=by
  intro h0;have hb:∃cs0,W.cells? 0 (a.add 0) 5=some cs0:=by
   rcases Nat.eq_zero_or_pos len with e|e
   .have:=hrj 0 o_;rw[e]at this;simp only[kN,Nat.zero_mul]at this;rw[kG o_]at this;cases hc:W.cells? 0 (a.add 0) 5 with
    |none=>rw[hc]at this;cases this
    |some c=>exact⟨c,rfl⟩
   .have:=hi 0 e;simp only[Nat.zero_mul]at this;rw[kG o_]at this;cases hc:W.cells? 0 (a.add 0) 5 with
    |none=>rw[hc]at this;cases this
    |some c=>exact⟨c,rfl⟩
  obtain⟨c0,hc0⟩:=hb;obtain⟨_,hlen,hget⟩:=World.cells?_some hc0;have:=hget 0 o_;rw[kG o_]at this;have:=Ao_ this;simpa[Addr.add] using this
 have key:∀k,k<=len->∃(φ':List LI)(H':Hp)(ps:List PC)(T:List Pg),φ<+:φ'/\H<+:H'/\cX_ φ' H' W/\i7_ H'/\ps.length=k/\T.length=k/\(∀i (h:i<ps.length) (h':i<T.length),(ps[i]).at H' T[i])/\
  ∀j v,(a0_ ps)[j]?=some v->∃x,W.cell? (a.add j)=some x/\v.is φ' x:=by
  intro k;induction k with
  |zero=>intro _;exact⟨φ,H,[],[],k8 _,k8 _,hr,hn,rfl,rfl,λi h1=>(j_ h1),λj v hj=>(by simp[a0_]at hj)⟩
  | succ k ih=>
   intro hk;obtain⟨φ1,H1,ps,T,e1,g1,r1,n1,l1,l2,at1,c1⟩:=ih o_;have hik:=hi k o_;have hel':k<elems.length:=o_
   rw[kG hel']at hik;cases hc:W.cells? 0 (a.add (k*5)) 5 with
   |none=>rw[hc]at hik;cases hik
   | some ck=>
    rw[hc]at hik;obtain⟨_,hlen,hget⟩:=World.cells?_some hc;obtain⟨φ2,H2,u,l,a1,n1',a2,n2,a3,n3,p,e2,g2,r2,n2',is2,at2⟩:=II_ (x:=elems[k]) hik (λv hv=>by intro _ _ _ _;exact hpos) (ui_ hw1 (i:=k) (by rw[getElem?_map,kG hel'];rfl)) r1 n1;obtain⟨hs,hb⟩:=hsp o_;refine⟨φ2,H2,ps++[⟨u,l,a1,n1',a2,n2,a3,n3⟩],T++[p],e1.trans e2,g1.trans g2,r2,n2',by simp[l1],by simp[l2],?_,?_⟩
    .intro i h1 h2;rw[getElem_append,getElem_append];by_cases e:i<k
     .rw[dif_pos o_,dif_pos o_];exact (at1 i o_ o_).mono g2
     .rw[dif_neg o_,dif_neg o_];simpa[PC.at] using at2
    ·intro j v hj;rw[pF_]at hj;rcases Nat.lt_or_ge j (k*5) with q|q
     .rw[kM (by rw[cz_];omega)]at hj;obtain⟨x,x1,x2⟩:=c1 j v hj;exact⟨x,x1,GV.is.mono e2 x2⟩
     .rw[getElem?_append_right (by rw[cz_];omega),cz_,l1]at hj;have hj5:j-k*5<5:=by have:=(kC.1 hj).1;simpa[a0_] using this
      obtain⟨x,hx,hvx⟩:=Is2.get is2 (j:=j-k*5) (v:=v) (by simpa[a0_,PC.cells] using hj);refine⟨x,?_,hvx⟩;have:=hget (j-k*5) hj5;rw[hx]at this;rw[<-this,oh_ hs,oh_ hs];rw[oh_ rfl];congr 2;show a.off+j=a.off+k*5+(j-k*5);omega
 obtain⟨φ1,H1,ps,T,e1,g1,r1,n1,l1,l2,at1,c1⟩:=key len (kO _);obtain⟨φ2,H2,p,e2,g2,r2,n2,i2,s2⟩:=xL_ (z:=5) r1 n1 hl hpos hsp (a0_ ps) (by rw[cz_,l1]) c1;refine⟨φ2,H2,p,len,ps,T,_,rfl,e1.trans e2,g1.trans g2,r2,n2,i2,⟨s2,l1,l2,λi h1 h2=>(at1 i h1 h2).mono g2⟩,?_⟩;have hb:Tryz.prog.bytesOf 100=80:=by kernel_rfl
 simp only[decide_eq_true_eq,k9,hb,hel]at hw0;unfold reachBytes at hw0;omega
def Fj_ {fuel:Nat} {cs:List Value} {x:DataW Hh × List MemPlace} (h:DataW.trod enc Tryz.prog W 0 (λ_=>true) held fuel 24 cs=some x) (hz:∀v∈cs,Zc W v) (hw:(DataW.weights Tryz.prog 24 x.1).all (· <=reachBytes)=true)
 {φ:List LI} {H:Hp} (hr:cX_ φ H W) (hn:i7_ H):
 ∃φ' H' a n ps T,φ<+:φ'/\H<+:H'/\cX_ φ' H' W/\i7_ H'/\Is2 φ' [.sl a n 5] cs/\Tr H' a n ps T/\n*80<=140737488351232:=by
 obtain⟨xs,n,rfl,rfl,hlen,hxs,hf⟩:=DataW.trod_struct Tryz.underlying24 h;have h1:Tryz.prog.cellsOf 24=1:=by kernel_rfl
 have c1:Tryz.prog.cellsOf 22=1:=by kernel_rfl
 rw[h1]at hlen
 match cs,hlen with
 | [v0],_=>
  have f0:DataW.trod enc Tryz.prog W 0 (λ_=>true) held n 22 (([v0].drop 0).take (Tryz.prog.cellsOf 22))=xs[0]? :=hf 0 _ rfl;simp only[c1,drop_zero,take_succ_cons,take_zero]at f0
  match xs,hxs with
  |[x0],_=>
   simp only[getElem?_cons_zero]at f0;simp only[map_cons,map_nil,DataW.weights,Tryz.underlying24]at hw;obtain⟨φ1,H1,a,m,ps,T,v,e,p1,q1,r1,o1,i1,s1,b1⟩:=Dx_ f0 (λv hv=>hz v hv) (oE_ hw (j:=0) rfl rfl) hr hn;simp only[List.cons.injEq,and_true]at e;subst e;exact⟨φ1,H1,a,m,ps,T,p1,q1,r1,o1,.cons i1 .nil,s1,b1⟩
end
end Go.Am
namespace Go.Am
open List
structure dS_{α β:Type}(ek:α->RV)(ev:β->RV)(H:Hp)(l:Nat)(ps:List (α × β)):Prop where
 ex:∃es c,H[l]?=some (.map es c)/\es.map (λe=>(e.2.1,e.2.2))=ps.map (λp=>(ek p.1,ev p.2))/\(∀e∈es,e.1<c)/\(es.map (·.1)).Nodup
 nodup:(ps.map (·.1)).Nodup
structure um_{α:Type}(ag:Bool)(lv:List LK)(ek:α->RV):Prop where
 fit:∀a,nG_ ag lv (ek a)=true
 inj:∀a b,ek a=ek b->a=b
def Do_ (h:nG_ ag lv k=true) (r:nG_ ag lv k'=true):∃e,lV_ k.cells k'.cells=some e/\(e=true↔k=k'):=by
 cases ag with
 | false=>
  cases k with
  |a _=>cases h
  | s v=>cases k' with
   |a _=>cases r
   |s G=>
    have⟨e,C,A⟩:=jK_ h r
    exact⟨e,C,A.trans ⟨λq=>g_,λq=>by cases q;rfl⟩⟩
 | true=>
  cases k with
  |s _=>cases h
  | a F=>cases k' with
   |s _=>cases r
   |a D=>
    have⟨e,C,A⟩:=jK_ h r
    exact⟨e,C,A.trans ⟨λq=>g_,λq=>by cases q;rfl⟩⟩
section
variable{α β:Type}[DecidableEq α]{ek:α->RV}{ev:β->RV}{ag:Bool}{lv:List LK}{H:Hp}{l:Nat}{ps:List (α × β)}
def look(ps:List (α × β))(k:α):Option β:=(ps.find? λp=>decide (p.1=k)).map (·.2)
def fP_(ps:List (α × β))(k:α)(v:β):List (α × β):=match look ps k with
 |some _=>ps.map λp=>if p.1=k then (k,v) else p
 |none=>ps++[(k,v)]
def w0_ (ok:um_ ag lv ek) (k:α):∀{es:List Ent}{ps:List (α × β)} (i:Nat),es.map (λe=>(e.2.1,e.2.2))=ps.map (λp=>(ek p.1,ev p.2))->
 (look ps k=none/\pd_ ag lv (ek k) es i=some none/\∀p∈ps,p.1≠k)\/∃j v,look ps k=some v/\pd_ ag lv (ek k) es i=some (some (i+j))/\ps[j]?=some (k,v)
 |[],[],i,_=> .inl ⟨rfl,rfl,t_⟩
 |[],_::_,_,h=>g_
 |_::_,[],_,h=>g_
 | e::es,p::ps,i,h=>by
  simp[map_cons]at h;have⟨⟨I,U⟩,h3⟩:=h;have⟨q,G,D⟩:=Do_ (ok.fit k) (ok.fit p.1);by_cases r:p.1=k
  .right;refine⟨0,p.2,by simp[look,r],?_,by simp[<-r]⟩;have:=D.2 g_;subst this;simp[pd_,I,ok.fit,G]
  ·have A:q=false:=by
    cases q with
    |false=>rfl
    |true=>exact absurd (ok.inj _ _ (D.1 rfl)).symm r
   subst A;have O:look (p::ps) k=look ps k:=by simp[look,r]
   have J:pd_ ag lv (ek k) (e::es) i=pd_ ag lv (ek k) es (i+1):=by simp[pd_,I,ok.fit,G]
   rcases w0_ ok k (i+1) h3 with⟨N,C,F⟩|⟨j,v,N,C,F⟩
   .grind
   .exact .inr ⟨j+1,v,g_,by rw[J,C];congr 2;omega,F⟩
end
section
variable{α β:Type}{ek:α->RV}{ev:β->RV}{ag:Bool}{lv:List LK}{H:Hp}{l:Nat}{ps:List (α × β)}
def Hr_{es:List Ent}(h:es.map (λe=>(e.2.1,e.2.2))=ps.map λp=>(ek p.1,ev p.2)){j:Nat}(A:ps[j]?=some (k,v)):∃e,es[j]?=some e/\e.2.1=ek k/\e.2.2=ev v:=by
 have:=congrArg (λl:List (RV × RV)=>l[j]?) h;simp only[getElem?_map,A]at this;cases r:es[j]? with
 |none=>rw[r]at this;simp at this
 |some e=>rw[r]at this;simp at this;exact⟨e,rfl,this.1,this.2⟩
end
section
variable{α β:Type}[DecidableEq α]{ek:α->RV}{ev:β->RV}{ag:Bool}{lv:List LK}{H:Hp}{l:Nat}{ps:List (α × β)}
def fH_(ok:um_ ag lv ek)(h:dS_ ek ev H l ps)(k:α)(I:∀v,look ps k=some v->K (ev v) true)(N:look ps k=none->K z false):sI_ H (some l) ag lv (ek k) z K:=by
 have⟨F,c,U,r,_,_⟩:=h.ex;unfold sI_;rcases w0_ ok k 0 r with⟨D,A,_⟩|⟨j,v,D,A,C⟩
 .grind
 .have⟨e,G,J,O⟩:=Hr_ r C;grind
end
section
variable{α β:Type}{ek:α->RV}{ev:β->RV}{ag:Bool}{lv:List LK}{H:Hp}{l:Nat}{ps:List (α × β)}
def l1_(h:dS_ ek ev H l ps)(C:K ps.length):pj_ H (some l) K:=by
 have⟨A,c,D,r,_,_⟩:=h.ex;unfold pj_;have:=congrArg length r;grind
end
section
variable{α β:Type}[DecidableEq α]{ek:α->RV}{ev:β->RV}{ag:Bool}{lv:List LK}{H:Hp}{l:Nat}{ps:List (α × β)}
theorem cU_ (h:look ps k=some v):(k,v)∈ps:=by
 unfold look at h;cases r:ps.find? λp=>decide (p.1=k) with
 |none=>rw[r]at h;cases h
 |some p=>
  grind
def oZ_(h:look ps k=none):∀p∈ps,p.1≠k:=by
 unfold look at h;rw[Option.map_eq_none_iff,find?_eq_none]at h;grind
theorem oL_ (k:α) (v:β):(fP_ ps k v).map (·.1)=match look ps k with|some _=>ps.map (·.1)|none=>ps.map (·.1)++[k]:=by
 unfold fP_;cases look ps k with
 |none=>simp
 |some _=>
  simp only[map_map];apply map_congr_left;grind
def iM_ (ok:um_ ag lv N) (h:dS_ N ev H l ps) (k:α) (v:β) {K:Hp->Prop} (hK:∀H',H'.length=H.length->(∀G,G≠l->H'[G]?=H[G]?)->dS_ N ev H' l (fP_ ps k v)->K H'):yg_ H (some l) ag lv (N k) (ev v) K:=by
 have⟨es,c,hm,O,hb,hn⟩:=h.ex;have F:=(kC.1 hm).1;unfold yg_;simp[hm];rcases w0_ ok k 0 O with⟨I,V,D⟩|⟨j,v0,I,V,D⟩
 .rw[V];refine hK _ t_ (λG U=>by rw[kF (Ne.symm U)]) ⟨⟨es++[(c,N k,ev v)],c+1,by rw[kH F],?_,?_,?_⟩,?_⟩
  .unfold fP_;rw[I];simp[O]
  .grind
  .rw[kL,kT];refine⟨hn,t_,λa Z b r q=>?_⟩;simp at r;have⟨e,Y,A⟩:=lA.1 Z;have:=hb e Y;omega
  .rw[oL_,I,kT];refine⟨h.nodup,t_,λa Z b r q=>?_⟩;simp at r;subst q;subst r;have⟨p,hp,A⟩:=lA.1 Z;exact D p hp A
 ·rw[V];have⟨e,J,A,e3⟩:=Hr_ O D;simp[J];refine hK _ t_ (λG U=>by rw[kF (Ne.symm U)]) ⟨⟨es.set j (e.1,e.2.1,ev v),c,by rw[kH F],?_,?_,?_⟩,?_⟩
  ·have W:fP_ ps k v=ps.set j (k,v):=by
    unfold fP_;rw[I];apply ext_getElem?;intro n;rw[getElem?_map,getElem?_set];by_cases C:j=n
    .subst C;rw[D];simp[(kC.1 D).1]
    ·rw[if_neg C];cases hx:ps[n]? with
     |none=>rfl
     | some p=>
      have hpk:p.1≠k:=λq=>by
       have hj1:(ps.map (·.1))[j]?=some k:=by rw[getElem?_map,D];rfl
       have hn1:(ps.map (·.1))[n]?=some k:=by rw[getElem?_map,hx,Option.map_some,q]
       have⟨l1,J⟩:=kC.1 hj1;obtain⟨l2,A⟩:=kC.1 hn1;rcases Nat.lt_or_gt_of_ne C with g|g
       .exact kS.1 h.nodup j n l1 l2 g (by rw[J,A])
       .exact kS.1 h.nodup n j l2 l1 g (by rw[J,A])
      simp[hpk]
   rw[W,List.map_set,List.map_set,O,A]
  .intro x hx;rcases mem_or_eq_of_mem_set hx with q|q
   .exact hb x q
   .rw[q];exact hb e (mem_of_getElem? J)
  .rw[List.map_set];grind
  .rw[oL_,I];exact h.nodup
end
structure fh_ {α β:Type} (ek:α->RV) (ev:β->RV) (H:Hp) (it l:Nat) (ps:List (α × β)) (js:List Nat):Prop where
 ex:∃es c,H[l]?=some (.map es c)/\es.map (λe=>(e.2.1,e.2.2))=ps.map (λp=>(ek p.1,ev p.2))/\(∀e∈es,e.1<c)/\(es.map (·.1)).Nodup/\
  H[it]?=some (.iter (some l) c (js.map λj=>((es[j]?).map (·.1)).getD 0) c)
 nod:js.Nodup
 lt:∀j∈js,j<ps.length
section
variable{α β:Type}{ek:α->RV}{ev:β->RV}{H H':Hp}{it l:Nat}{ps:List (α × β)}{js:List Nat}
theorem dS_.keep(h:dS_ ek ev H l ps)(e:H'[l]?=H[l]?):dS_ ek ev H' l ps:=by
 have⟨A,c,C,r⟩:=h.ex;exact⟨⟨A,c,g_,r⟩,h.nodup⟩
theorem dS_.lt(h:dS_ ek ev H l ps):l<H.length:=by
 have⟨r,c,A,_⟩:=h.ex;grind
theorem fh_.keep(h:fh_ ek ev H it l ps js)(I:H'[l]?=H[l]?)(D:H'[it]?=H[it]?):fh_ ek ev H' it l ps js:=by
 have⟨G,c,J,A,C,F,r⟩:=h.ex;exact⟨⟨G,c,g_,A,C,F,by rw[D];exact r⟩,h.nod,h.lt⟩
def fh_.lts(h:fh_ ek ev H it l ps js):l<H.length/\it<H.length:=by
 have⟨r,c,A,_,_,_,C⟩:=h.ex;grind
theorem fh_.map(h:fh_ ek ev H it l ps js)(C:(ps.map (·.1)).Nodup):dS_ ek ev H l ps:=by
 have⟨G,c,F,r,A,D,_⟩:=h.ex;exact⟨⟨G,c,F,r,A,D⟩,C⟩
def wC_(h:dS_ ek ev H l ps)(C:∀o,fh_ ek ev (H++[o]) H.length l ps []->K (H++[o])):rng H (some l) K:=by
 have⟨I,c,G,r,A,D⟩:=h.ex;unfold rng;simp[G];exact C _ ⟨⟨I,c,g_,r,A,D,by rw[getElem?_concat_length];rfl⟩,nodup_nil,λj F=>k_ F⟩
def CW_{es:List Ent}(h:es.map (λe=>(e.2.1,e.2.2))=ps.map λp=>(ek p.1,ev p.2)):es.length=ps.length:=by
 have:=congrArg length h;simpa
def ET_{es:List Ent}(h:es.map (λe=>(e.2.1,e.2.2))=ps.map λp=>(ek p.1,ev p.2))(A:j<ps.length)(r:j<es.length):es[j].2.1=ek ps[j].1/\es[j].2.2=ev ps[j].2:=by
 have:=congrArg (λl:List (RV × RV)=>l[j]?) h;grind
theorem HL_{es:List Ent}(r:(es.map (·.1)).Nodup)(hi:i<es.length)(A:j<es.length)(h:es[i].1=es[j].1):i=j:=by
 rcases Nat.lt_trichotomy i j with g|g|g
 .exact absurd g_ (kS.1 r i j g_ g_ g)
 .exact g
 .exact absurd g_ (kS.1 r j i g_ g_ g)
def xP_ (h:fh_ ek ev H it l ps js) (U:it≠l)
 (h1:∀j (D:j<ps.length),j∉js->∀H',H'.length=H.length->(∀O,O≠it->H'[O]?=H[O]?)->fh_ ek ev H' it l ps (js++[j])->K1 (ek ps[j].1) (ev ps[j].2) H')
 (h2:js.Perm (List.range ps.length)->K2 H):nxt H it 0 K1 K2:=by
 have⟨C,c,hm,Z,hb,hn,G⟩:=h.ex;have hl:=CW_ Z;have W:=(kC.1 G).1;have A:∀j (D:j<C.length),((C[j]?).map (·.1)).getD 0=C[j].1:=λj D=>by simp[kG D]
 refine⟨rfl,?_⟩;simp only[G,hm];refine⟨?_,λe r V=>?_,λhall=>?_⟩
 .cases C with
  |nil=>exact .inr (.inl rfl)
  |cons e C=>exact .inr (.inr ⟨e,t_,hb e t_⟩)
 ·obtain⟨j,D,rfl⟩:=kK r;have J:=λq=>V (lA.2 ⟨j,q,A j D⟩);have⟨e1,e2⟩:=ET_ Z o_ D;rw[e1,e2];refine h1 j o_ J _ t_ (λO Y=>by rw[kF (Ne.symm Y)]) ⟨⟨C,c,by rw[kF U];exact hm,Z,hb,hn,?_⟩,?_,?_⟩
  .rw[kH W,kL,map_singleton,A j D]
  .rw[kT];exact⟨h.nod,t_,λa ha b I q=>by simp at I;subst q;subst I;exact J ha⟩
  ·intro i N;rcases kD.1 N with q|q
   .exact h.lt i q
   .have:i=j:=by simpa using q
    omega
 ·refine h2 ((perm_ext_iff_of_nodup h.nod nodup_range).2 λj=>⟨λq=>mem_range.2 (h.lt j q),λq=>?_⟩);have D:j<C.length:=by have:=mem_range.1 q;omega
  have r:C[j].1∈js.map λj=>((C[j]?).map (·.1)).getD 0:=by
   grind
  have⟨i,N,e⟩:=lA.1 r;have F:i<C.length:=h_ (h.lt i N)
  rw[A i F]at e;rw[<-HL_ hn F D e];exact N
def rc_ {j:Nat} (h:fh_ ek ev H it l ps (js++[j])) (G:j<ps.length) {K:RV->RV->Prop} (O:K (ek ps[j].1) (ev ps[j].2)):DN_ H it 0 K:=by
 obtain⟨C,c,I,r,U,F,D⟩:=h.ex;have V:=CW_ r;have A:j<C.length:=o_
 refine⟨rfl,?_⟩;simp only[D,I,kL,map_singleton,getLast?_concat,kG A,Option.map_some,Option.getD_some];have Y:C.find? (λe=>e.1==C[j].1)=some C[j]:=by
  have:∀{l:List Ent},(l.map (·.1)).Nodup->∀e∈l,l.find? (λx=>x.1==e.1)=some e:=by
   intro l;induction l with
   |nil=>intro _ e r;cases r
   |cons x l N=>
    intro F e r;rw[map_cons,nodup_cons]at F;rw[find?_cons];rcases kU.1 r with rfl|r
    .simp
    .grind
  grind
 obtain⟨J,W⟩:=ET_ r G A;grind
end
def uw_(n:Int):Bool:=(leI 97 n&&leI n 122)||(leI 48 n&&leI n 57)
def jz_(s:Y_):Nat->Bool
 |0=>true
 |i+1=>jz_ s i&&uw_ (byt s i)
def aZ_(s:Y_)(m:Int):Bool:=jz_ s s.size&&(leI 1 (sz s)&&leI (sz s) m)
theorem k2_ (h:uw_ (byt s i)=false):∀n,i<n->jz_ s n=false
 |0,r=>o_
 | n+1,r=>by
  rcases Nat.lt_or_ge i n with q|q
  .simp[jz_,k2_ h n q]
  .obtain rfl:i=n:=by omega
   simp[jz_,h]
section
variable{H:Hp}{Q:Post}{s:Y_}
def lA_:s=mkS []↔s.size=0:=by
 constructor
 .simp_all
 .intro h;have:bs s=[]:=length_eq_zero_iff.1 (a_);exact jc_ (a_)
def pI_ {m:Int} (hs:s.size<=140737488351232) (hQ:Q (gB (aZ_ s m)) H):dv_ [gS s,gI m] H Q:=by
 refine⟨s.size+2,?_⟩;rw[B0_];have loop:∀(f i:Nat),s.size-i<f->i<=s.size->jz_ s i=true->dv_.l2 f s m (sz s) (i:Int) H Q:=by
  intro f;induction f with
  |zero=>intro i h;omega
  | succ f ih=>
   intro i hf hi hw;rw[dv_.l2_eq];rcases Nat.lt_or_ge i s.size with hi' |hi'
   ·rw[ay_ (by simp[oj_];omega)];refine ab_ (by simp[oj_];omega) ?_;have etN:tN (i:Int)=i:=rfl;rw[etN,ao_ o_];have nx:uw_ (byt s i)=true->dv_.l2 f s m (sz s) ((i+1:Nat):Int) H Q:=λh=>ih (i+1) o_ o_ (by simp[jz_,hw,h]);have no:uw_ (byt s i)=false->Q (gB false) H:=λh=>by
     have:aZ_ s m=false:=by unfold aZ_;rw[k2_ h _ hi'];rfl
     rw[<-this];exact hQ
    generalize byt s i=b at*;refine aa_ (λe1=>aa_ (λe2=>no ?_) λe2=>aa_ (λe3=>no ?_) λe3=>nx ?_) (λe1=>aa_ (λe2=>aa_ (λe3=>no ?_) λe3=>aa_ (λe4=>no ?_) λe4=>nx ?_) λe2=>nx ?_)<;>
     simp[uw_] at* <;>omega
   ·obtain rfl:i=s.size:=by omega
    rw[aB_ (by simp[oj_])];unfold aZ_ at hQ;rw[hw,Bool.true_and]at hQ;refine aa_ (λe=>?_) λe=>?_
    .have h0:s.size≠0:=λz=>by rw[lA_.2 z]at e;simp at e
     rw[show leI 1 (sz s)=true by simp[oj_];omega,Bool.true_and]at hQ;exact hQ
    .have h0:s.size=0:=lA_.1 (u_ e);rw[show leI 1 (sz s)=false by simp[oj_];omega,Bool.false_and]at hQ;exact hQ
 exact loop _ 0 o_ (kP _) rfl
def mT_ {m:Int} (hs:s.size<=140737488351232) (hQ:Q (gB (aZ_ s m)) H):cy_ [gS s,gI m] H Q:=by
 refine⟨s.size+2,?_⟩;rw[yt_];have loop:∀(f i:Nat),s.size-i<f->i<=s.size->jz_ s i=true->cy_.l2 f s m (i:Int) H Q:=by
  intro f;induction f with
  |zero=>intro i h;omega
  | succ f ih=>
   intro i hf hi hw;rw[cy_.l2_eq];rcases Nat.lt_or_ge i s.size with hi' |hi'
   ·rw[ay_ (by simp[oj_];omega)];have hck:(leI 0 (i:Int)&&ltI (i:Int) (sz s))=true:=by simp[oj_];omega
    rw[hck];simp only[af_];have etN:tN (i:Int)=i:=rfl;rw[etN,ao_ o_];have nx:uw_ (byt s i)=true->cy_.l2 f s m ((i+1:Nat):Int) H Q:=λh=>ih (i+1) o_ o_ (by simp[jz_,hw,h]);have no:uw_ (byt s i)=false->Q (gB false) H:=λh=>by
     have:aZ_ s m=false:=by unfold aZ_;rw[k2_ h _ hi'];rfl
     rw[<-this];exact hQ
    generalize byt s i=b at*;refine aa_ (λe1=>aa_ (λe2=>nx ?_) λe2=>aa_ (λe3=>aa_ (λe4=>no ?_) λe4=>nx ?_) λe3=>no ?_) (λe1=>aa_ (λe3=>aa_ (λe4=>no ?_) λe4=>nx ?_) λe3=>no ?_)<;>
     simp[uw_] at* <;>omega
   .obtain rfl:i=s.size:=by omega
    rw[aB_ (by simp[oj_])];unfold aZ_ at hQ;rw[hw,Bool.true_and]at hQ;refine aa_ (λe=>?_) λe=>?_
    .rw[e,Bool.true_and]at hQ;exact hQ
    .rw[e,Bool.false_and]at hQ;exact hQ
 exact loop _ 0 o_ (kP _) rfl
end
theorem dZ_(h:(!b)=true):b=false:=by cases b<;>simp_all
theorem eB_(h:(!b)=false):b=true:=by cases b<;>simp_all
def lx_(s:Y_)(l h:Nat):(sub s l h).size<=s.size:=by
 unfold sub;rw[ByteArray.size_extract];omega
def le_(s:Y_)(j:Nat):0<=byt s j/\byt s j<=255:=by
 unfold byt;have:((s.data.toList.getD j 0).toNat)<256:=UInt8.toNat_lt _;omega
theorem fn_(s:Y_)(j:Nat):ae_ .i64 (byt s j)=byt s j:=by
 have:=le_ s j;exact cf_ o_ o_
def cu_(s:Y_):Option Y_:=match leI 1 (sz s)&&(eqI (byt s 0) 115&&aZ_ (sub s 1 s.size) 4) with|true=>some (sub s 1 s.size)|false=>none
def b1_(s:Y_):Option (Int × Y_):=match leI 2 (sz s)&&(eqI (byt s 0) 102&&(leI 1 (byt s 1)&&aZ_ (sub s 2 s.size) 3)) with|true=>some (byt s 1,sub s 2 s.size)|false=>none
def c7_(s:Y_):Option Int:=match eqI (sz s) 2&&(eqI (byt s 0) 105&&leI 1 (byt s 1)) with|true=>some (byt s 1)|false=>none
structure SnapR where
 id:Int
 kind:Int
 parent:Y_
 label:Y_
 deriving DecidableEq
structure InoR where
 links:Int
 content:Y_
 deriving DecidableEq
def SnapR.cells(x:SnapR):List GV:=[.int .i64 x.id,.int .i64 x.kind,.str x.parent,.str x.label]
def InoR.cells(x:InoR):List GV:=[.int .i64 x.links,.str x.content]
def kU_:SnapR:=⟨0,0,mkS [],mkS []⟩
def yQ_:InoR:=⟨0,mkS []⟩
def fG_(x:SnapR):Bool:=(leI 1 x.id&&leI x.id 255)&&((leI 0 x.kind&&leI x.kind 2)&&((er_ x.parent (mkS [])||aZ_ x.parent 4)&&leI (sz x.label) 3))
def ev_(x:InoR):Bool:=(leI 1 x.links&&leI x.links 255)&&leI (sz x.content) 6
def oF_(s:Y_):SnapR:=⟨byt s 0,byt s 1,sub s 3 (tN (3+byt s 2)),sub s (tN (3+byt s 2)) s.size⟩
def uH_(s:Y_):InoR:=⟨byt s 0,sub s 1 s.size⟩
def bB_(s:Y_):Option SnapR:=match leI 3 (sz s)&&(leI (3+byt s 2) (sz s)&&fG_ (oF_ s)) with|true=>some (oF_ s)|false=>none
def cR_(s:Y_):Option InoR:=match leI 1 (sz s)&&ev_ (uH_ s) with|true=>some (uH_ s)|false=>none
def Ka_(o:Option SnapR):Int:=match o with|some _=>0|none=>1700
def KG_(o:Option InoR):Int:=match o with|some _=>0|none=>1800
section
variable{H:Hp}{Q:Post}{s:Y_}
def fe_(r:s.size<=140737488351232)(A:Q (gB (aZ_ s 4)) H):c4_ [gS s] H Q:=by
 refine⟨1,?_⟩;rw[x8_];refine pI_ r ?_;simp_all
def gg_(r:s.size<=140737488351232)(A:Q (gB (aZ_ s 3)) H):dr_ [gS s] H Q:=by
 refine⟨1,?_⟩;rw[x7_];refine pI_ r ?_;simp_all
def b5_(r:s.size<=140737488351232)(A:Q (gB (aZ_ s 4)) H):bf_ [gS s] H Q:=by
 refine⟨1,?_⟩;rw[tX_];refine mT_ r ?_;simp_all
def d1_(r:s.size<=140737488351232)(A:Q (gB (aZ_ s 3)) H):bW_ [gS s] H Q:=by
 refine⟨1,?_⟩;rw[s1_];refine mT_ r ?_;simp_all
def hK_(r:Q (gB (leI 1 n&&leI n 255)) H):gy_ [gI n] H Q:=by
 refine⟨1,?_⟩;rw[FQ_];refine aa_ (λe=>?_) λe=>?_
 .grind
 .grind
def g0_(r:Q (gB (leI 1 n&&leI n 255)) H):dB_ [gI n] H Q:=by
 refine⟨1,?_⟩;rw[xS_];refine aa_ (λe=>?_) λe=>?_
 .grind
 .grind
def oi_(A:1<=n)(r:Q (gB (leI n (sz s)&&eqI (byt s 0) p)) H):kq_ [gS s,.g (.int .u8 p),gI n] H Q:=by
 refine⟨1,?_⟩;rw[Fs_];refine aa_ (λe=>?_) λe=>?_
 .rw[e,Bool.true_and]at r;refine ab_ (z_ e) ?_;exact r
 .grind
def yL_ (hs:s.size<=140737488351232) (hQ:Q (.tup [.s (.str ((cu_ s).getD (mkS []))),.s (.bool (cu_ s).isSome)]) H):kh_ [gS s] H Q:=by
 have hz:=lx_ s 1 s.size;refine⟨1,?_⟩;rw[C2_];refine oi_ o_ ?_;simp only[aJ_,ak_];refine aa_ (λe=>?_) λe=>?_
 .have:cu_ s=none:=by unfold cu_;rw[<-Bool.and_assoc,dZ_ e];rfl
  rw[this]at hQ;exact hQ
 ·have e':(leI 1 (sz s)&&eqI (byt s 0) 115)=true:=by simpa using e
  have h1:1<=s.size:=i_ e'
  refine ab_ s_ ?_;refine fe_ (Nat.le_trans hz hs) ?_;simp only[aJ_,ak_];refine aa_ (λe2=>?_) λe2=>?_
  .have:cu_ s=none:=by unfold cu_;rw[<-Bool.and_assoc,e',show aZ_ (sub s 1 s.size) 4=false by simpa using e2];rfl
   rw[this]at hQ;exact hQ
  .have:cu_ s=some (sub s 1 s.size):=by unfold cu_;rw[<-Bool.and_assoc,e',show aZ_ (sub s 1 s.size) 4=true by simpa using e2];rfl
   rw[this]at hQ;refine ab_ s_ ?_;exact hQ
def ru_ (hs:s.size<=140737488351232) (hQ:Q (.tup [.s (.str ((cu_ s).getD (mkS []))),.s (.bool (cu_ s).isSome)]) H):f9_ [gS s] H Q:=by
 have hz:=lx_ s 1 s.size;refine⟨1,?_⟩;rw[u9_];refine aa_ (λe=>?_) λe=>?_
 .have:cu_ s=none:=by unfold cu_;rw[show leI 1 (sz s)=false by simp at e ⊢;omega];rfl
  rw[this]at hQ;exact hQ
 ·have h1:1<=s.size:=by simp at e;omega
  have e0:leI 1 (sz s)=true:=s_
  refine ab_ s_ ?_;refine aa_ (λe1=>?_) λe1=>?_
  .have:cu_ s=none:=by unfold cu_;rw[show eqI (byt s 0) 115=false by simpa using e1,e0];rfl
   rw[this]at hQ;exact hQ
  have e1':eqI (byt s 0) 115=true:=u_ e1
  refine ab_ s_ ?_;refine b5_ (Nat.le_trans hz hs) ?_;simp only[aJ_,ak_];refine aa_ (λe2=>?_) λe2=>?_
  .have:cu_ s=none:=by unfold cu_;rw[e0,e1',show aZ_ (sub s 1 s.size) 4=false by simpa using e2];rfl
   rw[this]at hQ;exact hQ
  .have:cu_ s=some (sub s 1 s.size):=by unfold cu_;rw[e0,e1',show aZ_ (sub s 1 s.size) 4=true by simpa using e2];rfl
   rw[this]at hQ;refine ab_ s_ ?_;exact hQ
def yP_ (hs:s.size<=140737488351232) (hQ:Q (.tup [nN ((b1_ s).map (·.1) |>.getD 0),.s (.str ((b1_ s).map (·.2) |>.getD (mkS []))),.s (.bool (b1_ s).isSome)]) H):kp_ [gS s] H Q:=by
 have hz:=lx_ s 2 s.size;refine⟨1,?_⟩;rw[CV_];refine oi_ o_ ?_;simp only[aJ_,ak_];refine aa_ (λe=>?_) λe=>?_
 .have:b1_ s=none:=by unfold b1_;rw[<-Bool.and_assoc,dZ_ e];rfl
  rw[this]at hQ;exact hQ
 ·have e':(leI 2 (sz s)&&eqI (byt s 0) 102)=true:=by simpa using e
  have h1:2<=s.size:=i_ e'
  have hb:=le_ s 1;refine ab_ s_ ?_;refine hK_ ?_;simp only[aJ_,ak_];rw[show tN 1=1 from rfl,fn_];refine aa_ (λe2=>?_) λe2=>?_
  .have:b1_ s=none:=by unfold b1_;rw[<-Bool.and_assoc,e',show leI 1 (byt s 1)=false by simp at e2 ⊢;omega];rfl
   rw[this]at hQ;exact hQ
  ·have e3:leI 1 (byt s 1)=true:=by simp at e2 ⊢;omega
   refine ab_ s_ ?_;refine gg_ (Nat.le_trans hz hs) ?_;simp only[aJ_,ak_];refine aa_ (λe4=>?_) λe4=>?_
   .have:b1_ s=none:=by unfold b1_;rw[<-Bool.and_assoc,e',e3,show aZ_ (sub s 2 s.size) 3=false by simpa using e4];rfl
    rw[this]at hQ;exact hQ
   .have:b1_ s=some (byt s 1,sub s 2 s.size):=by unfold b1_;rw[<-Bool.and_assoc,e',e3,show aZ_ (sub s 2 s.size) 3=true by simpa using e4];rfl
    rw[this]at hQ;exact ab_ s_ (ab_ s_ hQ)
def rb_ (hs:s.size<=140737488351232) (hQ:Q (.tup [nN ((b1_ s).map (·.1) |>.getD 0),.s (.str ((b1_ s).map (·.2) |>.getD (mkS []))),.s (.bool (b1_ s).isSome)]) H):f6_ [gS s] H Q:=by
 have hz:=lx_ s 2 s.size;have hb:=le_ s 1;refine⟨1,?_⟩;rw[u1_];refine aa_ (λe=>?_) λe=>?_
 .have:b1_ s=none:=by unfold b1_;rw[show leI 2 (sz s)=false by simp at e ⊢;omega];rfl
  rw[this]at hQ;exact hQ
 ·have h1:2<=s.size:=by simp at e;omega
  have e0:leI 2 (sz s)=true:=s_
  refine ab_ s_ ?_;refine aa_ (λe1=>?_) λe1=>?_
  .have:b1_ s=none:=by unfold b1_;rw[show eqI (byt s 0) 102=false by simpa using e1,e0];rfl
   rw[this]at hQ;exact hQ
  have e1':eqI (byt s 0) 102=true:=u_ e1
  refine ab_ s_ ?_;rw[show tN 1=1 from rfl,fn_];refine aa_ (λe2=>?_) λe2=>?_
  .have:b1_ s=none:=by unfold b1_;rw[e0,e1',show leI 1 (byt s 1)=false by simp at e2 ⊢;omega];rfl
   rw[this]at hQ;exact hQ
  ·have e3:leI 1 (byt s 1)=true:=by simp at e2 ⊢;omega
   refine ab_ s_ ?_;refine d1_ (Nat.le_trans hz hs) ?_;simp only[aJ_,ak_];refine aa_ (λe4=>?_) λe4=>?_
   .have:b1_ s=none:=by unfold b1_;rw[e0,e1',e3,show aZ_ (sub s 2 s.size) 3=false by simpa using e4];rfl
    rw[this]at hQ;exact hQ
   .have:b1_ s=some (byt s 1,sub s 2 s.size):=by unfold b1_;rw[e0,e1',e3,show aZ_ (sub s 2 s.size) 3=true by simpa using e4];rfl
    rw[this]at hQ;exact ab_ s_ (ab_ s_ hQ)
def uK_ (F:Q (.tup [nN ((c7_ s).getD 0),.s (.bool (c7_ s).isSome)]) H):hA_ [gS s] H Q:=by
 have G:=le_ s 1;refine⟨1,?_⟩;rw[yR_];refine oi_ o_ (aa_ (λe=>?_) λe=>?_)
 ·have:c7_ s=none:=by
   unfold c7_;have:(eqI (sz s) 2&&(eqI (byt s 0) 105&&leI 1 (byt s 1)))=false:=by
    cases h:(eqI (sz s) 2&&(eqI (byt s 0) 105&&leI 1 (byt s 1))) with
    |false=>rfl
    |true=>simp at h e;omega
   grind
  grind
 ·have C:eqI (byt s 0) 105=true:=by grind
  refine aa_ (λD=>?_) λD=>?_
  .have:c7_ s=none:=by unfold c7_;rw[show eqI (sz s) 2=false by simpa using D];rfl
   grind
  ·have r:eqI (sz s) 2=true:=by grind
   refine ab_ (a_) (hK_ ?_);rw[show tN 1=1 from rfl,fn_];refine aa_ (λA=>?_) λA=>?_
   .have:c7_ s=none:=by unfold c7_;rw[r,C,show leI 1 (byt s 1)=false by simp at A ⊢;omega];rfl
    grind
   .have:c7_ s=some (byt s 1):=by unfold c7_;rw[r,C,show leI 1 (byt s 1)=true by simp at A ⊢;omega];rfl
    simp_all
def ps_ (G:Q (.tup [nN ((c7_ s).getD 0),.s (.bool (c7_ s).isSome)]) H):e2_ [gS s] H Q:=by
 have I:=le_ s 1;refine⟨1,?_⟩;rw[rf_];refine aa_ (λF=>?_) λF=>?_
 .have:c7_ s=none:=by unfold c7_;rw[show eqI (sz s) 2=false by simpa using F];rfl
  grind
 ·have r:eqI (sz s) 2=true:=by grind
  refine ab_ (a_) (aa_ (λD=>?_) λD=>?_)
  .have:c7_ s=none:=by unfold c7_;rw[r,show eqI (byt s 0) 105=false by simpa using D];rfl
   grind
  have A:eqI (byt s 0) 105=true:=a_
  refine ab_ (a_) ?_;rw[show tN 1=1 from rfl,fn_];refine aa_ (λC=>?_) λC=>?_
  .have:c7_ s=none:=by unfold c7_;rw[r,A,show leI 1 (byt s 1)=false by simp at C ⊢;omega];rfl
   grind
  .have:c7_ s=some (byt s 1):=by unfold c7_;rw[r,A,show leI 1 (byt s 1)=true by simp at C ⊢;omega];rfl
   simp_all
end
section
variable{H:Hp}{Q:Post}{s:Y_}
def nX_(r:Q (gB (leI 0 n&&leI n 2)) H):g1_ [gI n] H Q:=by
 refine⟨1,?_⟩;rw[AA_];refine aa_ (λe=>?_) λe=>?_
 .grind
 .grind
def jh_(r:Q (gB (leI (sz s) 3)) H):fZ_ [gS s] H Q:=⟨1,r⟩
def hu_(r:Q (gB (leI (sz s) 6)) H):dF_ [gS s] H Q:=⟨1,r⟩
def pP_ (G:x.parent.size<=140737488351232) (F:Q (gB (fG_ x)) H):hU_ [.agg [.int .i64 x.id,.int .i64 x.kind,.str x.parent,.str x.label]] H Q:=by
 refine⟨1,?_⟩;rw[CM_];unfold fG_ at F;refine hK_ (aa_ (λD=>?_) λD=>?_)
 rotate_left
 .grind
 refine nX_ (aa_ (λA=>?_) λA=>?_)
 rotate_left
 .grind
 refine aa_ (λC=>?_) λC=>?_
 .refine jh_ ?_;simp_all
 .refine fe_ G (aa_ (λr=>?_) λr=>?_)
  .refine jh_ ?_;simp_all
  .grind
def j1_ (I:x.parent.size<=140737488351232) (G:Q (gB (fG_ x)) H):d7_ [.agg [.int .i64 x.id,.int .i64 x.kind,.str x.parent,.str x.label]] H Q:=by
 refine⟨1,?_⟩;rw[tc_];unfold fG_ at G;refine g0_ (aa_ (λD=>?_) λD=>?_)
 rotate_left
 .grind
 refine aa_ (λA=>?_) λA=>?_
 rotate_left
 .grind
 refine aa_ (λF=>?_) λF=>?_
 rotate_left
 .grind
 refine aa_ (λC=>?_) λC=>?_
 .grind
 .refine b5_ I (aa_ (λr=>?_) λr=>?_)
  .grind
  .grind
def nR_(A:Q (gB (ev_ x)) H):gV_ [.agg [.int .i64 x.links,.str x.content]] H Q:=by
 refine⟨1,?_⟩;rw[A1_];unfold ev_ at A;refine hK_ (aa_ (λr=>?_) λr=>?_)
 .refine hu_ ?_;simp_all
 .grind
def jt_(A:Q (gB (ev_ x)) H):dL_ [.agg [.int .i64 x.links,.str x.content]] H Q:=by
 refine⟨1,?_⟩;rw[rv_];unfold ev_ at A;refine g0_ (aa_ (λr=>?_) λr=>?_)
 .grind
 .grind
def yj_ (V:s.size<=140737488351232) (r:Q (.tup [.a ((bB_ s).getD kU_).cells,nN (Ka_ (bB_ s))]) H):kf_ [gS s] H Q:=by
 have Y:=le_ s 2;refine⟨1,?_⟩;rw[C0_];refine aa_ (λI=>?_) λI=>?_
 .have:bB_ s=none:=by unfold bB_;rw[show leI 3 (sz s)=false by simp at I ⊢;omega];rfl
  rw[this]at r;exact r
 have W:3<=s.size:=i_ I
 have A:leI 3 (sz s)=true:=a_
 have N:tN 2=2:=rfl;have J:tN 1=1:=rfl;have U:tN 0=0:=rfl;have O:tN 3=3:=rfl;rw[U,J,N,O,fn_,fn_,fn_,cf_ s_ s_,cf_ o_ o_];refine ab_ s_ ?_;refine aa_ (λF=>?_) λF=>?_
 .have:bB_ s=none:=by unfold bB_;rw[show leI (3+byt s 2) (sz s)=false by simp at F ⊢;omega,A];rfl
  rw[this]at r;exact r
 have C:leI (3+byt s 2) (sz s)=true:=z_ F
 have D:(tN (3+byt s 2))<=s.size:=a_
 refine ab_ s_ (ab_ s_ (ab_ s_ (ab_ s_ (ab_ (z_ D) ?_))));refine ab_ s_ (ab_ (z_ D) ?_);refine pP_ (x:=oF_ s) (Nat.le_trans (lx_ _ _ _) V) (aa_ (λG=>?_) λG=>?_)
 .have:bB_ s=none:=by unfold bB_;rw[A,C,dZ_ G];rfl
  rw[this]at r;exact r
 .have:bB_ s=some (oF_ s):=by unfold bB_;rw[A,C,eB_ G];rfl
  rw[this]at r;exact r
def qD_ (V:s.size<=140737488351232) (r:Q (.tup [.a ((bB_ s).getD kU_).cells,nN (Ka_ (bB_ s))]) H):fA_ [gS s] H Q:=by
 have Y:=le_ s 2;refine⟨1,?_⟩;rw[tQ_];refine aa_ (λG=>?_) λG=>?_
 .have:bB_ s=none:=by unfold bB_;rw[show leI 3 (sz s)=false by simp at G ⊢;omega];rfl
  rw[this]at r;exact r
 have W:3<=s.size:=i_ G
 have A:leI 3 (sz s)=true:=a_
 have N:tN 2=2:=rfl;have J:tN 1=1:=rfl;have U:tN 0=0:=rfl;have O:tN 3=3:=rfl;rw[U,J,N,O,fn_,fn_,fn_,cf_ o_ o_];refine ab_ s_ ?_;refine aa_ (λI=>?_) λI=>?_
 .have:bB_ s=none:=by unfold bB_;rw[show leI (3+byt s 2) (sz s)=false by simp at I ⊢;omega,A];rfl
  rw[this]at r;exact r
 have C:leI (3+byt s 2) (sz s)=true:=a_
 have D:(tN (3+byt s 2))<=s.size:=a_
 refine ab_ s_ (ab_ s_ (ab_ s_ (ab_ s_ (ab_ (z_ D) ?_))));refine ab_ s_ (ab_ (z_ D) ?_);refine j1_ (x:=oF_ s) (Nat.le_trans (lx_ _ _ _) V) (aa_ (λF=>?_) λF=>?_)
 .have:bB_ s=none:=by unfold bB_;rw[A,C,dZ_ F];rfl
  rw[this]at r;exact r
 .have:bB_ s=some (oF_ s):=by unfold bB_;rw[A,C,eB_ F];rfl
  rw[this]at r;exact r
def wg_ (G:s.size<=140737488351232) (r:Q (.tup [.a ((cR_ s).getD yQ_).cells,nN (KG_ (cR_ s))]) H):ip_ [gS s] H Q:=by
 refine⟨1,?_⟩;rw[zV_];refine aa_ (λD=>?_) λD=>?_
 .have F:s.size=0:=lA_.1 (a_);have:cR_ s=none:=by unfold cR_;rw[(s_:leI 1 (sz s)=false)];rfl
  rw[this]at r;exact r
 have F:s.size≠0:=λz=>by rw[lA_.2 z]at D;simp at D
 have A:leI 1 (sz s)=true:=s_
 rw[show tN 0=0 from rfl,show tN 1=1 from rfl,fn_];refine ab_ s_ (ab_ s_ ?_);refine nR_ (x:=uH_ s) (aa_ (λC=>?_) λC=>?_)
 .have:cR_ s=none:=by unfold cR_;rw[A,dZ_ C];rfl
  rw[this]at r;exact r
 .have:cR_ s=some (uH_ s):=by unfold cR_;rw[A,eB_ C];rfl
  rw[this]at r;exact r
def pc_ (G:s.size<=140737488351232) (r:Q (.tup [.a ((cR_ s).getD yQ_).cells,nN (KG_ (cR_ s))]) H):eT_ [gS s] H Q:=by
 refine⟨1,?_⟩;rw[se_];refine aa_ (λD=>?_) λD=>?_
 .have F:s.size=0:=lA_.1 (a_);have:cR_ s=none:=by unfold cR_;rw[(s_:leI 1 (sz s)=false)];rfl
  rw[this]at r;exact r
 have F:s.size≠0:=λz=>by rw[lA_.2 z]at D;simp at D
 have A:leI 1 (sz s)=true:=s_
 rw[show tN 0=0 from rfl,show tN 1=1 from rfl,fn_];refine ab_ s_ (ab_ s_ ?_);refine jt_ (x:=uH_ s) (aa_ (λC=>?_) λC=>?_)
 .have:cR_ s=none:=by unfold cR_;rw[A,dZ_ C];rfl
  rw[this]at r;exact r
 .have:cR_ s=some (uH_ s):=by unfold cR_;rw[A,eB_ C];rfl
  rw[this]at r;exact r
end
end Go.Am
namespace Go.Am
def blt(a b:Y_):Bool:=Op.bytesLess (bs a) (bs b)
theorem h2_(a b:Y_):dQ_ a b=blt a b:=kn_ a b
def IV_:List Y_->Bool
 |[]=>true
 |[_]=>true
 |a::b::r=>Op.bytesLess (bs a) (bs b)&&IV_ (b::r)
theorem wh_:∀xs:List Y_,IV_ xs=true↔in_ xs
 |[]=>⟨λ_ i h=>absurd h t_,λ_=>rfl⟩
 |[_]=>⟨λ_ i h=>absurd h t_,λ_=>rfl⟩
 | a::b::r=>by
  have F:=wh_ (b::r);simp[IV_,F,<-kn_];constructor
  .rintro⟨D,C⟩ i A;cases i with
   |zero=>exact D
   |succ i=>exact C i g_
  .exact λh=>⟨h 0 t_,λi A=>h (i+1) g_⟩
def nodB:List Int->Bool
 |[]=>true
 |a::r=> !(r.contains a)&&nodB r
theorem CL_:∀xs:List Int,nodB xs=true↔xs.Nodup
 |[]=>by simp[nodB]
 |a::r=>by simp[nodB,CL_ r]
def EM_ (p:Pg):Bool:=p.used&&(IV_ p.keys&&(p.keys.all (λk=>decide (1<=k.size)&&decide (k.size<=6))&&
 (match p.leaf with
  |true=>decide (p.vals.length=p.keys.length)&&(p.kids.isEmpty&&p.vals.all λv=>decide (v.size<=10))
  |false=>decide (1<=p.keys.length)&&(p.vals.isEmpty&&(decide (p.kids.length=p.keys.length+1)&&(p.kids.all (λk=>decide (1<=k)&&decide (k<48))&&nodB p.kids))))))
theorem Gd_ (p:Pg):EM_ p=true↔i8_ p:=by
 have⟨u,l,r,A,is⟩:=p;cases l with
 |true=>
  simp[EM_,wh_];exact⟨λh=>⟨h.1,h.2.1,h.2.2.1,λ_=>h.2.2.2,λq=>g_⟩,λh=>⟨h.used,h.rising,h.keys,h.leaf rfl⟩⟩
 |false=>
  simp[EM_,wh_,CL_];exact⟨λh=>⟨h.1,h.2.1,h.2.2.1,λq=>g_,λ_=>h.2.2.2⟩,λh=>⟨h.used,h.rising,h.keys,h.inner rfl⟩⟩
def kL_(p:Pg):Bool:=decide (p.keys.length<=4)&&EM_ p
theorem ef_(p:Pg):kL_ p=true↔fm_ p:=by simp[kL_,fm_,Gd_]
structure WS where
 met:List Bool
 deep:Nat
 count:Nat
def gu_(lo hi:Y_)(ks:List Y_):Bool:=ks.all λk=> !(blt k lo)&&(decide (hi.size=0)||blt k hi)
def loK(p:Pg)(lo:Y_)(i:Nat):Y_:=match decide (0<i) with|true=>p.keys[i-1]?.getD lo|false=>lo
def hiK(p:Pg)(hi:Y_)(i:Nat):Y_:=p.keys[i]?.getD hi
def gG_ (rec:Int->Nat->WS->Option WS):List Int->Nat->WS->Option WS
 |[],_,st=>some st
 |k::ks,i,st=>match rec k i st with
  |none=>none
  |some st'=>gG_ rec ks (i+1) st'
def okD(p:Pg)(at_:Nat)(lo hi:Y_)(st:WS):Bool:= !(st.met[at_]?.getD true)&&(kL_ p&&(!(decide (0<at_)&&decide (p.keys.length<2))&&gu_ lo hi p.keys))
def leafD (p:Pg) (deep:Nat) (st:WS):Option WS:=match decide (st.deep=0) with
 |true=>some ⟨st.met,deep,st.count+p.keys.length⟩
 |false=>match decide (st.deep=deep) with
  |true=>some ⟨st.met,deep,st.count+p.keys.length⟩
  |false=>none
def cT_ (T:List Pg):Nat->Nat->Nat->Y_->Y_->WS->Option WS
 |0,_,_,_,_,_=>none
 | f+1,at_,deep,lo,hi,st=>match T[at_]? with
  |none=>none
  | some p=>match okD p at_ lo hi st with
   |false=>none
   |true=>match p.leaf with
    |true=>leafD p deep ⟨st.met.set at_ true,st.deep,st.count⟩
    |false=>gG_ (λk i s=>cT_ T f k.toNat (deep+1) (loK p lo i) (hiK p hi i) s) p.kids 0 ⟨st.met.set at_ true,st.deep,st.count⟩
def cS_(p:Pg):Bool:= !p.used&&(!p.leaf&&(p.keys.isEmpty&&(p.vals.isEmpty&&p.kids.isEmpty)))
def hI_(T:List Pg)(met:List Bool):Bool:=(List.range T.length).all λi=>met[i]?.getD true||cS_ (T[i]?.getD noPg)
def ws0:WS:=⟨List.replicate 48 false,0,0⟩
def aL_ (T:List Pg):Nat:=match decide (T.length=48) with
 |false=>0
 | true=>match cT_ T 49 0 1 (mkS []) (mkS []) ws0 with
  |none=>0
  |some st=>match hI_ T st.met&&decide (st.count<=60) with
   |true=>st.deep
   |false=>0
def gr_(met:List Bool):Nat:=(met.filter (! ·)).length
def o2_:∀{met:List Bool}{i:Nat},met[i]?=some false->gr_ (met.set i true)+1=gr_ met
 |[],i,h=>g_
 |b::met,0,h=>by simp at h;subst h;simp[gr_]
 |b::met,i+1,h=>by
  have:=o2_ (met:=met) (i:=i) g_;unfold gr_ at this ⊢;grind
def iU_ (T:List Pg):∀f D A lo hi st C,cT_ T f D A lo hi st=some C->gr_ C.met<=gr_ st.met/\C.met.length=st.met.length/\(1<=A->C.deep≠0)/\C.count+4*gr_ C.met<=st.count+4*gr_ st.met:=by
 intro f;induction f with
 |zero=>intro _ _ _ _ _ _ h;cases h
 | succ f ih=>
  intro D A lo hi st C h;unfold cT_ at h;cases V:T[D]? with
  |none=>rw[V]at h;cases h
  | some p=>
   rw[V]at h;dsimp at h;cases r:okD p D lo hi st with
   |false=>rw[r]at h;cases h
   | true=>
    rw[r]at h;have hm:st.met[D]?=some false:=by
     unfold okD at r;rw[kR]at r;have:=r.1;cases U:st.met[D]? with
     |none=>rw[U]at this;simp at this
     |some b=>rw[U]at this;simp at this;rw[this]
    have hu:=o2_ hm;have h4:p.keys.length<=4:=by
     unfold okD at r;simp only[kR]at r;exact ((ef_ p).1 r.2.1).1
    cases I:p.leaf with
    | true=>
     rw[I]at h;dsimp[leafD]at h;split at h
     .cases h;exact⟨by dsimp;omega,t_,λhd=>by dsimp;omega,by dsimp;omega⟩
     .split at h
      .cases h;exact⟨by dsimp;omega,t_,λhd=>by dsimp;omega,by dsimp;omega⟩
      .cases h
    | false=>
     rw[I]at h;have hk:p.kids≠[]:=by
      intro e;unfold okD at r;simp only[kR]at r;have:=((ef_ p).1 r.2.1).2.inner I;rw[e]at this;simp at this
     have key:∀G i (s F),gG_ (λk i s=>cT_ T f k.toNat (A+1) (loK p lo i) (hiK p hi i) s) G i s=some F->gr_ F.met<=gr_ s.met/\F.met.length=s.met.length/\(G≠[]\/s.deep≠0->F.deep≠0)/\F.count+4*gr_ F.met<=s.count+4*gr_ s.met:=by
      intro G;induction G with
      |nil=>intro i s F h;cases h;exact⟨kO _,rfl,λq=>a_,kO _⟩
      | cons k G J=>
       intro i s F h;unfold gG_ at h;cases N:cT_ T f k.toNat (A+1) (loK p lo i) (hiK p hi i) s with
       |none=>rw[N]at h;cases h
       |some s1=>
        rw[N]at h;have⟨W,O,Z,Y⟩:=ih _ _ _ _ _ _ N;obtain⟨v1,v2,v3,v4⟩:=J _ _ _ h;omega
     obtain⟨W,O,Z,Y⟩:=key _ _ _ _ h;dsimp at W O Y;exact⟨o_,by rw[O];simp,λ_=>Z (.inl hk),o_⟩
theorem j4_ (T:List Pg) (f h r:Nat) (lo hi:Y_) (st:WS) (A:T[h]?=some p):cT_ T (f+1) h r lo hi st=(match okD p h lo hi st with
 |false=>none
 |true=>match p.leaf with
  |true=>leafD p r ⟨st.met.set h true,st.deep,st.count⟩
  |false=>gG_ (λk i s=>cT_ T f k.toNat (r+1) (loK p lo i) (hiK p hi i) s) p.kids 0 ⟨st.met.set h true,st.deep,st.count⟩):=by
 rw[cT_,A]
end Go.Am
